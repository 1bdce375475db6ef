/- spec.l10Draw: a list of some numbers. -/
import Derived.Test.YtdcjjibekhcplaaDaf
namespace Go.Ax
open Go Go.Proofs

noncomputable def rows2 : List (FuncId × Table) := (201, numT) :: rows1
theorem rows2_at : allAt Try.prog rows2 := ⟨num_at, rows1_at⟩
noncomputable def tab2 : Table := deep Try.prog rows2 [95] 1000 5
theorem tab2_sound : SoundT Try.prog tab2 := deep_sound (allAt_mem rows2_at) 5

noncomputable def drC : Code := Try.f135.body.getD .skip
noncomputable def dr0 (c : Cd) (a : Nat) (h n : Int) : Res := toLoop Try.prog tab2 100 [.code drC] (.p true 1 0 :: .i false .i64 n :: undefs 31) [codeB c false, srcB c a h]
def cL : Code → Code
  | .seq a _ => a
  | c => c
def cR : Code → Code
  | .seq _ b => b
  | c => c
def cB : Code → Code
  | .block _ c => c
  | c => c
def cO : Code → Code
  | .loop c => c
  | c => c
noncomputable def drL : List Item := [.code (.loop (cO (cB (cL (cR (cR drC)))))), .inBlock 0, .code (cR (cR (cR drC)))]
noncomputable def drR : List Item := [.inLoop (cO (cB (cL (cR (cR drC))))), .inBlock 0, .code (cR (cR (cR drC)))]
def Res.conds : Res → List Bool → List Bool
  | .ite b x y, p :: l => b :: (match p with
    | true => x.conds l
    | false => y.conds l)
  | _, _ => []
/-- The way that is gone is the one whose tests hold. -/
theorem Res.sel_at : ∀ (l : List Bool) (r : Res), r.conds l = l → r.sel = (r.at l).sel
  | [], r, _ => by cases r <;> rfl
  | p :: l, r, h => by
    cases r with
    | ite b x y =>
      simp only [Res.conds, List.cons.injEq] at h
      obtain ⟨rfl, h⟩ := h
      cases b with
      | true => exact Res.sel_at l x h
      | false => exact Res.sel_at l y h
    | _ => rfl
theorem toLoop_head (P : Program) (T : Table) (n : Nat) (c : Code) (k : List Item) (t : List AV) (H : List AB) : toLoop P T (n + 1) (.code (.loop c) :: k) t H = toLoop P T (n + 1) (.inLoop c :: k) t H := rfl
noncomputable def drT (n : Int) (xs : List Nat) (w : Bool) : List AV := [.p true 1 0, .i false .i64 n, .any, .any, .any, .sl false 2 0 xs.length 1, .b false w, .any, .any, .any, .any, .any, .any, .any, .any, .any, .any, .any, .any, .any, .any, .any, .any, .any, .any, .any, .any, .any, .any, .any, .any, .any, .any]
noncomputable def drM : List Bool := [false, false, true, true, true, false, false] ++ List.replicate 26 true
noncomputable def drH (c : Cd) (a : Nat) (h : Int) (xs : List Nat) : List AB := [codeB c false, srcB c a h, .cells true (.f32 xs)]
noncomputable def dr1 (L : List Item) (c : Cd) (a : Nat) (h n : Int) (xs : List Nat) (w : Bool) : Res := toLoop Try.prog tab2 200 L (drT n xs w) (drH c a h xs)

/-- What a leaf comes to where only what is of use is kept. -/
noncomputable def drFin : Res → Option (List AV × List AB × List Bool)
  | .stop _ t H nd => some (renL 2 (renL 2 (blur drM t)), dropB 2 2 (dropB 2 2 H), nd)
  | _ => none
theorem stop_fin {r : Res} {L : List Item} {t : List AV} {H : List AB} {nd : List Bool} (h1 : r.todo = L) (h2 : drFin r = some (t, H, nd)) : ∃ t0 H0, r = .stop L t0 H0 nd ∧ t = renL 2 (renL 2 (blur drM t0)) ∧ H = dropB 2 2 (dropB 2 2 H0) := by
  cases r <;> simp [drFin] at h2
  rename_i todo t0 H0 nd0
  obtain ⟨rfl, rfl, rfl⟩ := h2
  simp [Res.todo] at h1
  subst h1
  exact ⟨t0, H0, rfl, rfl, rfl⟩
noncomputable def drA (c : Cd) (a : Nat) (h : Int) (w : Bool) : Nat := bif w then nxA c (numV c (nxA c a 21) (nxS h 21)).2.1 200 else nxA c (nxA c a 21) 200
noncomputable def drS (c : Cd) (a : Nat) (h : Int) (w : Bool) : Int := bif w then nxS (numV c (nxA c a 21) (nxS h 21)).2.2 200 else nxS (nxS h 21) 200
noncomputable def drQ (c : Cd) (a : Nat) (h : Int) (w : Bool) : Bool := bif w then nxV c (numV c (nxA c a 21) (nxS h 21)).2.1 (numV c (nxA c a 21) (nxS h 21)).2.2 200 == 0 else nxV c (nxA c a 21) (nxS h 21) 200 == 0
noncomputable def drX (c : Cd) (a : Nat) (h : Int) (w q : Bool) : Nat := bif q then fmul .f32 (fltOf 2139095039) 1073741824 else bif w then (numV c (nxA c a 21) (nxS h 21)).1 else FloatKind.f32.nearest (IntKind.i64.wrap (nxV c a h 21 - 10))
noncomputable def drN (n : Int) (xs : List Nat) (w : Bool) : List AV := [.p true 1 0, .i false .i64 (IntKind.i64.wrap (n - 1)), .any, .any, .any, .sl false 2 0 (xs.length + 1) 1, .b false w, .any, .any, .any, .any, .any, .any, .any, .any, .any, .any, .any, .any, .any, .any, .any, .any, .any, .any, .any, .any, .any, .any, .any, .any, .any, .any]
noncomputable def drK (xs : List Nat) : Bool := decide (0 = 0) && decide (1 = 1) && decide (xs.length * 1 = (Cells.f32 xs).len) && decide ((2 * (xs.length + 1) + 1024) * 4 ≤ 2 ^ 48)
noncomputable def drNd (c : Cd) (xs : List Nat) (w : Bool) : List Bool := match w with
  | true => [drK xs, okB c c.off c.len, okB c c.off c.len, okB c c.off c.len]
  | false => [drK xs, okB c c.off c.len, okB c c.off c.len]

theorem dr_conds (c : Cd) (a : Nat) (h n : Int) (xs : List Nat) (w : Bool) (w' q : Bool) : (dr1 drR c a h n xs w).conds [true, w', q] = [decide (0 < n), w, drQ c a h w'] := by
  cases w' <;> cases q <;> kernel_rfl
theorem dr_todo (c : Cd) (a : Nat) (h n : Int) (xs : List Nat) (w : Bool) (w' q : Bool) : ((dr1 drR c a h n xs w).at [true, w', q]).todo = drR := by
  cases w' <;> cases q <;> kernel_rfl
theorem dr_fin (c : Cd) (a : Nat) (h n : Int) (xs : List Nat) (w : Bool) (w' q : Bool) : drFin ((dr1 drR c a h n xs w).at [true, w', q]) =
    some (drN n xs w, [codeB c false, srcB c (drA c a h w') (drS c a h w'), .cells true (.f32 (List.take (xs.length * 1) (List.drop 0 xs) ++ [drX c a h w' q]))], drNd c xs w') := by
  cases w' <;> cases q <;> kernel_rfl

theorem drK_true (xs : List Nat) (h : xs.length ≤ 5000) : drK xs = true := by
  unfold drK Cells.len
  simp
  omega
theorem drN_eq (n : Int) (xs : List Nat) (x : Nat) (w : Bool) (h : 0 < n) (h1 : n ≤ 5000) : drN n xs w = drT (n - 1) (xs ++ [x]) w := by
  unfold drN drT
  rw [wrap64_id (by omega) (by omega), List.length_append]
  rfl
/-- One round. -/
theorem dr_round {c : Cd} (hc : goodB c = true) {todoS : List Item} {tS : List AV} {HS : List AB} (hHS : HS.length ≤ 2) (a : Nat) (h n : Int) (xs : List Nat) (w : Bool) (hn : 0 < n) (hn1 : n ≤ 5000) (hx : xs.length ≤ 5000)
    (L : List Item) (hL : L = drL ∨ L = drR) (hr : Reach Try.prog todoS tS HS L (drT n xs w) (drH c a h xs)) :
    ∃ x a' h', Reach Try.prog todoS tS HS drR (drT (n - 1) (xs ++ [x]) w) (drH c a' h' (xs ++ [x])) := by
  have hok : okB c c.off c.len = true := by simp [okB, hc]
  refine ⟨drX c a h w (drQ c a h w), drA c a h w, drS c a h w, ?_⟩
  have hd : decide (0 < n) = true := by simpa using hn
  have e1 : (dr1 drR c a h n xs w).sel = ((dr1 drR c a h n xs w).at [true, w, drQ c a h w]).sel := Res.sel_at _ _ (by rw [dr_conds, hd])
  obtain ⟨t0, H0, e2, e3, e4⟩ := stop_fin (dr_todo c a h n xs w w (drQ c a h w)) (dr_fin c a h n xs w w (drQ c a h w))
  rw [e2] at e1
  have hnd : allT (drNd c xs w) = true := by
    have := drK_true xs hx
    cases w <;> simp [drNd, allT, hok, this]
  have e5 : (toLoop Try.prog tab2 200 L (drT n xs w) (drH c a h xs)).sel = .stop drR t0 H0 (drNd c xs w) := by
    rcases hL with rfl | rfl
    · have : toLoop Try.prog tab2 200 drL (drT n xs w) (drH c a h xs) = dr1 drR c a h n xs w := toLoop_head _ _ 199 _ _ _ _
      rw [this]; exact e1
    · exact e1
  have e6 := (hr.trans (toLoop_reach tab2_sound e5 hnd)).weak (blur_eqv drM t0)
  have hlen : 4 ≤ H0.length := by
    have h1 := congrArg List.length e4
    simp only [List.length_cons, List.length_nil] at h1
    rcases Nat.lt_or_ge 2 (dropB 2 2 H0).length with h2 | h2
    · have h3 := dropB_length 2 2 _ h2
      rcases Nat.lt_or_ge 2 H0.length with h4 | h4
      · have h5 := dropB_length 2 2 _ h4; omega
      · have : ∀ (l : List AB), l.length ≤ 2 → (dropB 2 2 l).length ≤ 2 := by
          intro l hl
          match l, hl with
          | [], _ => simp [dropB]
          | [_], _ => simp [dropB]
          | [_, _], _ => simp [dropB]
        have := this _ h4; omega
    · have : ∀ (l : List AB), l.length ≤ 2 → (dropB 2 2 l).length ≤ 2 := by
        intro l hl
        match l, hl with
        | [], _ => simp [dropB]
        | [_], _ => simp [dropB]
        | [_, _], _ => simp [dropB]
      have := this _ h2; omega
  have e7 := e6.drop 2 hHS (by omega)
  have h8 := dropB_length 2 2 H0 (by omega)
  have e9 := e7.drop 2 hHS (by omega)
  rw [← e3, ← e4, drN_eq n xs (drX c a h w (drQ c a h w)) w hn hn1, List.drop_zero, Nat.mul_one, List.take_length] at e9
  exact e9
theorem dr_rounds {c : Cd} (hc : goodB c = true) {todoS : List Item} {tS : List AV} {HS : List AB} (hHS : HS.length ≤ 2) (w : Bool) : ∀ (m : Nat) (a : Nat) (h n : Int) (xs : List Nat), n = m → xs.length + m ≤ 5000 →
    Reach Try.prog todoS tS HS drR (drT n xs w) (drH c a h xs) → ∃ ys a' h', ys.length = xs.length + m ∧ Reach Try.prog todoS tS HS drR (drT 0 ys w) (drH c a' h' ys)
  | 0, a, h, n, xs, hn, _, hr => by
    have : n = 0 := by omega
    subst this
    exact ⟨xs, a, h, rfl, hr⟩
  | m + 1, a, h, n, xs, hn, hb, hr => by
    obtain ⟨x, a', h', hr'⟩ := dr_round hc hHS a h n xs w (by omega) (by omega) (by omega) drR (.inr rfl) hr
    obtain ⟨ys, a2, h2, e, hr2⟩ := dr_rounds hc hHS w m a' h' (n - 1) (xs ++ [x]) (by omega) (by simp; omega) hr'
    exact ⟨ys, a2, h2, by rw [e]; simp; omega, hr2⟩

/-- The end. -/
noncomputable def retOf (rs : List ResultVar) : Res → Option (Option (List AV × List Bool) × List AB × List Bool)
  | .ret v H nd => match v with
    | .tup t => some (resV Try.prog t H rs, H, nd)
    | _ => none
  | _ => none
theorem retOf_some {rs : List ResultVar} {r : Res} {x : Option (List AV × List Bool)} {H : List AB} {nd : List Bool} (h : retOf rs r = some (x, H, nd)) : ∃ t, r = .ret (.tup t) H nd ∧ resV Try.prog t H rs = x := by
  unfold retOf at h
  split at h <;> (try (cases h; done))
  split at h <;> cases h
  exact ⟨_, rfl, rfl⟩
theorem dr_exit (c : Cd) (a : Nat) (h n : Int) (xs : List Nat) (w : Bool) : (dr1 drR c a h n xs w).conds [false] = [decide (0 < n)] ∧
    retOf Try.f135.results.toList ((dr1 drR c a h n xs w).at [false]) = some (some ([.sl false 2 0 xs.length 1], []), drH c a h xs, []) := by
  constructor <;> kernel_rfl
theorem dr_end {c : Cd} {todoS : List Item} {tS : List AV} {HS : List AB} (a : Nat) (h : Int) (xs : List Nat) (w : Bool) (L : List Item) (hL : L = drL ∨ L = drR) (hr : Reach Try.prog todoS tS HS L (drT 0 xs w) (drH c a h xs)) :
    ∃ t, Ends Try.prog todoS tS HS t (drH c a h xs) ∧ resV Try.prog t (drH c a h xs) Try.f135.results.toList = some ([.sl false 2 0 xs.length 1], []) := by
  obtain ⟨e1, e2⟩ := dr_exit c a h 0 xs w
  obtain ⟨t, e3, e4⟩ := retOf_some e2
  have e5 : (dr1 drR c a h 0 xs w).sel = .ret (.tup t) (drH c a h xs) [] := by
    rw [Res.sel_at [false] _ (by rw [e1]; rfl), e3]; rfl
  have e6 : (toLoop Try.prog tab2 200 L (drT 0 xs w) (drH c a h xs)).sel = .ret (.tup t) (drH c a h xs) [] := by
    rcases hL with rfl | rfl
    · have : toLoop Try.prog tab2 200 drL (drT 0 xs w) (drH c a h xs) = dr1 drR c a h 0 xs w := toLoop_head _ _ 199 _ _ _ _
      rw [this]; exact e5
    · exact e5
  exact ⟨t, hr.ends (toLoop_ends tab2_sound e6 rfl), e4⟩

/-- The beginning. -/
noncomputable def dr0Fin : Res → Option (List AV × List AB × List Bool)
  | .stop _ t H nd => some ((blur drM t).map AV.bare, H, nd)
  | _ => none
theorem dr0_at (c : Cd) (a : Nat) (h n : Int) : ∀ p ∈ [[true], [false, true], [false, false, true], [false, false, false, true], [false, false, false, false]],
    ((dr0 c a h n).at p).todo = drL ∧ dr0Fin ((dr0 c a h n).at p) = some ((drT n [] (p == [false, false, false, false])).map AV.bare, drH c (nxA c a 5) (nxS h 5) [], [okB c c.off c.len]) := by
  intro p hp
  simp only [List.mem_cons, List.not_mem_nil, or_false] at hp
  rcases hp with rfl | rfl | rfl | rfl | rfl <;> constructor <;> kernel_rfl
theorem dr0_conds (c : Cd) (a : Nat) (h n : Int) : (dr0 c a h n).conds [true] = [decide (nxV c a h 5 = 4)] ∧ (dr0 c a h n).conds [false, true] = [decide (nxV c a h 5 = 4), decide (nxV c a h 5 = 3)] ∧
    (dr0 c a h n).conds [false, false, true] = [decide (nxV c a h 5 = 4), decide (nxV c a h 5 = 3), decide (nxV c a h 5 = 2)] ∧
    (dr0 c a h n).conds [false, false, false, true] = [decide (nxV c a h 5 = 4), decide (nxV c a h 5 = 3), decide (nxV c a h 5 = 2), decide (nxV c a h 5 = 1)] ∧
    (dr0 c a h n).conds [false, false, false, false] = [decide (nxV c a h 5 = 4), decide (nxV c a h 5 = 3), decide (nxV c a h 5 = 2), decide (nxV c a h 5 = 1)] := by
  refine ⟨?_, ?_, ?_, ?_, ?_⟩ <;> kernel_rfl
theorem dr_begin {c : Cd} (hc : goodB c = true) (a : Nat) (h n : Int) : ∃ w, Reach Try.prog [.code drC] (.p true 1 0 :: .i false .i64 n :: undefs 31) [codeB c false, srcB c a h] drL (drT n [] w) (drH c (nxA c a 5) (nxS h 5) []) := by
  have hok : okB c c.off c.len = true := by simp [okB, hc]
  have go : ∀ p ∈ [[true], [false, true], [false, false, true], [false, false, false, true], [false, false, false, false]], (dr0 c a h n).conds p = p →
      ∃ w, Reach Try.prog [.code drC] (.p true 1 0 :: .i false .i64 n :: undefs 31) [codeB c false, srcB c a h] drL (drT n [] w) (drH c (nxA c a 5) (nxS h 5) []) := fun p hp hcond => by
    obtain ⟨e1, e2⟩ := dr0_at c a h n p hp
    have e3 := Res.sel_at p _ hcond
    cases hr : (dr0 c a h n).at p <;> rw [hr] at e1 e2 e3 <;> simp [dr0Fin] at e2
    rename_i todo t H nd
    obtain ⟨e4, e5, e6⟩ := e2
    simp only [Res.todo] at e1
    subst e1; subst e5; subst e6
    refine ⟨p == [false, false, false, false], ((toLoop_reach tab2_sound e3 (by simp [allT, hok])).weak (blur_eqv drM t)).weak (eqv_of_bare ?_)⟩
    rw [← e4]
  obtain ⟨c1, c2, c3, c4, c5⟩ := dr0_conds c a h n
  by_cases h4 : nxV c a h 5 = 4
  · exact go [true] (by simp) (by rw [c1]; simp [h4])
  by_cases h3 : nxV c a h 5 = 3
  · exact go [false, true] (by simp) (by rw [c2]; simp [h3])
  by_cases h2 : nxV c a h 5 = 2
  · exact go [false, false, true] (by simp) (by rw [c3]; simp [h2])
  by_cases h1 : nxV c a h 5 = 1
  · exact go [false, false, false, true] (by simp) (by rw [c4]; simp [h1])
  · exact go [false, false, false, false] (by simp) (by rw [c5]; simp [h1, h2, h3, h4])

theorem l10_ok {c : Cd} (hc : goodB c = true) (a : Nat) (h n : Int) (h0 : 0 ≤ n) (h1 : n ≤ 5000) : ∃ xs a' h', xs.length = n.toNat ∧
    CallOK Try.prog 135 [.p true 1 0, .i false .i64 n] [codeB c false, srcB c a h] (.sl false 2 0 xs.length 1) (drH c a' h' xs) := by
  obtain ⟨w, e1⟩ := dr_begin hc a h n
  have hb : Try.f135.body = some drC := rfl
  have fin : ∀ {xs : List Nat} {a' : Nat} {h' : Int} {L : List Item}, (L = drL ∨ L = drR) → Reach Try.prog [.code drC] (.p true 1 0 :: .i false .i64 n :: undefs 31) [codeB c false, srcB c a h] L (drT 0 xs w) (drH c a' h' xs) →
      CallOK Try.prog 135 [.p true 1 0, .i false .i64 n] [codeB c false, srcB c a h] (.sl false 2 0 xs.length 1) (drH c a' h' xs) := fun {xs a' h' L} hL hr => by
    obtain ⟨t, e2, e3⟩ := dr_end a' h' xs w L hL hr
    exact call_of_ends (args := [.p true 1 0, .i false .i64 n]) (m := []) Try.func135 hb e2 e3 rfl
  by_cases hn : n = 0
  · subst hn
    exact ⟨[], _, _, rfl, fin (.inl rfl) e1⟩
  · obtain ⟨x, a1, h2, e2⟩ := dr_round hc (by simp) _ _ n [] w (by omega) h1 (by simp) drL (.inl rfl) e1
    obtain ⟨ys, a', h', e3, e4⟩ := dr_rounds hc (by simp) w (n - 1).toNat a1 h2 (n - 1) ([] ++ [x]) (by omega) (by simp; omega) e2
    refine ⟨ys, a', h', ?_, fin (.inr rfl) e4⟩
    rw [e3]; simp; omega
end Go.Ax

/- spec.l01From: a source out of a text of bytes. -/
namespace Go.Ax
open Go Go.Proofs

/-- A leaf where only what is of use is kept, by a mask. -/
noncomputable def leafM (M : List Bool) : Res → Option (List AV × List AB × List Bool)
  | .stop _ t H nd => some (blur M t, H, nd)
  | _ => none
theorem leafM_stop {M : List Bool} {r : Res} {L : List Item} {t : List AV} {H : List AB} {nd : List Bool} (h1 : r.todo = L) (h2 : leafM M r = some (t, H, nd)) : ∃ t0, r = .stop L t0 H nd ∧ t = blur M t0 := by
  cases r <;> simp [leafM] at h2
  rename_i todo t0 H0 nd0
  obtain ⟨rfl, rfl, rfl⟩ := h2
  simp [Res.todo] at h1
  subst h1
  exact ⟨t0, rfl, rfl⟩
/-- From a leaf to a way. -/
theorem reach_leaf {P : Program} {T : Table} (hT : SoundT P T) {n : Nat} {todo L : List Item} {t0 t : List AV} {H H' : List AB} {nd : List Bool} {M p : List Bool} (hc : (toLoop P T n todo t0 H).conds p = p)
    (h1 : ((toLoop P T n todo t0 H).at p).todo = L) (h2 : leafM M ((toLoop P T n todo t0 H).at p) = some (t, H', nd)) (hn : allT nd = true) : Reach P todo t0 H L t H' := by
  obtain ⟨t1, e1, rfl⟩ := leafM_stop h1 h2
  have e2 := Res.sel_at p _ hc
  rw [e1] at e2
  exact (toLoop_reach hT e2 hn).weak (blur_eqv M t1)
theorem ends_leaf {T : Table} (hT : SoundT Try.prog T) {n : Nat} {todo : List Item} {t0 : List AV} {H H' : List AB} {nd : List Bool} {rs : List ResultVar} {x : Option (List AV × List Bool)} {p : List Bool} (hc : (toLoop Try.prog T n todo t0 H).conds p = p)
    (h2 : retOf rs ((toLoop Try.prog T n todo t0 H).at p) = some (x, H', nd)) (hn : allT nd = true) : ∃ t, Ends Try.prog todo t0 H t H' ∧ resV Try.prog t H' rs = x := by
  obtain ⟨t, e1, e2⟩ := retOf_some h2
  have e3 := Res.sel_at p _ hc
  rw [e1] at e3
  exact ⟨t, toLoop_ends hT e3 hn, e2⟩

noncomputable def frC : Code := Try.f94.body.getD .skip
noncomputable def frL : List Item := [.code (.loop (cO (cB (cR (cL (cR (cR frC))))))), .inBlock 0, .code (cR (cR (cR frC)))]
noncomputable def frR : List Item := [.inLoop (cO (cB (cR (cL (cR (cR frC)))))), .inBlock 0, .code (cR (cR (cR frC)))]
noncomputable def frT (c : Cd) (i : Nat) : List AV := [.sl false 0 c.off c.len 0, .any, .any, .p true 1 0, .i false .i64 (Int.ofNat i)] ++ List.replicate 33 .any
noncomputable def frN (c : Cd) (i : Nat) : List AV := [.sl false 0 c.off c.len 0, .any, .any, .p true 1 0, .i false .i64 (IntKind.i64.wrap (Int.ofNat i + 1))] ++ List.replicate 33 .any
noncomputable def frM : List Bool := [false, true, true, false, false] ++ List.replicate 33 true
noncomputable def srcZ (c : Cd) (h : Int) : AB := .cells true (.lit [.sl false 0 c.off c.len 0, .i true .i64 0, .i false .u64 h])
noncomputable def fr0 (c : Cd) : Res := toLoop Try.prog noT 100 [.code frC] (.sl false 0 c.off c.len 0 :: undefs 37) [codeB c false]
noncomputable def fr1 (c : Cd) (i : Nat) (h : Int) : Res := toLoop Try.prog noT 100 frR (frT c i) [codeB c false, srcZ c h]
noncomputable def frH (c : Cd) (i : Nat) (h : Int) : Int := IntKind.u64.wrap (IntKind.u64.wrap (IntKind.u64.wrap (h * 1099511628211) + IntKind.u64.wrap (c.bytes.getD (c.off + (Int.ofNat i).toNat * 1 - c.off) 0)) + 41)

theorem fr0_fin (c : Cd) : (fr0 c).todo = frL ∧ (leafM frM (fr0 c)).map (fun r => (r.1.map AV.bare, r.2)) = some ((frT c 0).map AV.bare, [codeB c false, srcZ c (IntKind.u64.wrap (10331 + IntKind.u64.wrap (Int.ofNat c.len)))], []) := by
  constructor <;> kernel_rfl
theorem fr1_go (c : Cd) (i : Nat) (h : Int) : (fr1 c i h).conds [true, true] = [decide (Int.ofNat i < ↑c.len), decide (Int.ofNat i < 4096)] ∧ ((fr1 c i h).at [true, true]).todo = frR ∧
    leafM frM ((fr1 c i h).at [true, true]) = some (frN c i, [codeB c false, srcZ c (frH c i h)], [decide (c.off ≤ c.off + (Int.ofNat i).toNat * 1), decide (c.off + (Int.ofNat i).toNat * 1 - c.off < c.bytes.length), decide (0 ≤ Int.ofNat i) && decide (Int.ofNat i < ↑c.len)]) := by
  refine ⟨?_, ?_, ?_⟩ <;> kernel_rfl
theorem fr1_end (c : Cd) (i : Nat) (h : Int) : (fr1 c i h).conds [false] = [decide (Int.ofNat i < ↑c.len)] ∧
    retOf Try.f94.results.toList ((fr1 c i h).at [false]) = some (some ([.p true 1 0], []), [codeB c false, srcZ c h], []) := by
  refine ⟨?_, ?_⟩ <;> kernel_rfl

theorem fr_from {c : Cd} (hc : goodB c = true) {todoS : List Item} {tS : List AV} {HS : List AB} (L : List Item) (hL : L = frL ∨ L = frR) : ∀ (m : Nat) (i : Nat) (h : Int), i + m = c.len →
    Reach Try.prog todoS tS HS L (frT c i) [codeB c false, srcZ c h] → ∃ t h', Ends Try.prog todoS tS HS t [codeB c false, srcZ c h'] ∧ resV Try.prog t [codeB c false, srcZ c h'] Try.f94.results.toList = some ([.p true 1 0], [])
  | 0, i, h, hi, hr => by
    have hi' : i = c.len := by omega
    subst hi'
    obtain ⟨e1, e2⟩ := fr1_end c c.len h
    have hd : decide (Int.ofNat c.len < ↑c.len) = false := by simp
    rw [hd] at e1
    have hend : ∃ t, Ends Try.prog L (frT c c.len) [codeB c false, srcZ c h] t [codeB c false, srcZ c h] ∧ resV Try.prog t [codeB c false, srcZ c h] Try.f94.results.toList = some ([.p true 1 0], []) := by
      rcases hL with rfl | rfl
      · exact ends_leaf (n := 100) hT0 (T := noT) (p := [false]) e1 e2 rfl
      · exact ends_leaf (n := 100) hT0 (T := noT) (p := [false]) e1 e2 rfl
    obtain ⟨t, e3, e4⟩ := hend
    exact ⟨t, h, hr.ends e3, e4⟩
  | m + 1, i, h, hi, hr => by
    obtain ⟨e1, e2, e3⟩ := fr1_go c i h
    have hg := hc
    simp only [goodB, Bool.and_eq_true, decide_eq_true_eq] at hg
    have hd1 : decide (Int.ofNat i < ↑c.len) = true := by simp; omega
    have hd2 : decide (Int.ofNat i < 4096) = true := by simp; omega
    rw [hd1, hd2] at e1
    have hnd : allT [decide (c.off ≤ c.off + (Int.ofNat i).toNat * 1), decide (c.off + (Int.ofNat i).toNat * 1 - c.off < c.bytes.length), decide (0 ≤ Int.ofNat i) && decide (Int.ofNat i < ↑c.len)] = true := by
      simp [allT]; omega
    have hN : frN c i = frT c (i + 1) := by
      unfold frN frT
      have : IntKind.i64.wrap (Int.ofNat i + 1) = Int.ofNat (i + 1) := by rw [wrap64_id] <;> simp <;> omega
      rw [this]
    rw [hN] at e3
    have hstep : Reach Try.prog L (frT c i) [codeB c false, srcZ c h] frR (frT c (i + 1)) [codeB c false, srcZ c (frH c i h)] := by
      rcases hL with rfl | rfl
      · exact reach_leaf (n := 100) hT0 (T := noT) (p := [true, true]) e1 e2 e3 hnd
      · exact reach_leaf (n := 100) hT0 (T := noT) (p := [true, true]) e1 e2 e3 hnd
    exact fr_from hc frR (.inr rfl) m (i + 1) _ (by omega) (hr.trans hstep)

theorem from_ok {c : Cd} (hc : goodB c = true) : ∃ h, CallOK Try.prog 94 [.sl false 0 c.off c.len 0] [codeB c false] (.p true 1 0) [codeB c false, srcZ c h] := by
  obtain ⟨e1, e2⟩ := fr0_fin c
  cases hr : fr0 c <;> rw [hr] at e1 e2 <;> simp [leafM] at e2
  rename_i todo t H nd
  obtain ⟨e3, rfl, rfl⟩ := e2
  simp only [Res.todo] at e1
  subst e1
  have h0 : Reach Try.prog [.code frC] (.sl false 0 c.off c.len 0 :: undefs 37) [codeB c false] frL (frT c 0) [codeB c false, srcZ c (IntKind.u64.wrap (10331 + IntKind.u64.wrap (Int.ofNat c.len)))] := by
    refine ((toLoop_reach (n := 100) (nd := []) hT0 (T := noT) (t' := t) (todo' := frL) ?_ rfl).weak (blur_eqv frM t)).weak (eqv_of_bare ?_)
    · unfold fr0 at hr; rw [hr]; rfl
    · rw [← e3]
  obtain ⟨t', h', e4, e5⟩ := fr_from hc frL (.inl rfl) c.len 0 _ (by omega) h0
  have hb : Try.f94.body = some frC := rfl
  exact ⟨h', call_of_ends (args := [.sl false 0 c.off c.len 0]) (m := []) Try.func94 hb e4 e5 rfl⟩
end Go.Ax

/- Table rows for spec.l01From and spec.l10Draw. -/
namespace Go.Ax
open Go Go.Proofs

theorem CallOK.pre {P : Program} {f : FuncId} {args : List AV} {v : AV} {H G H' : List AB} (h : CallOK P f args G v H') (e : HEq H G) : CallOK P f args H v H' := fun σ w rargs s hra => by
  refine (h σ w rargs (e.sim s) hra).mono ?_
  rintro e' w' ⟨rv, rfl, σ', r1, s1, F⟩
  exact ⟨rv, rfl, σ', r1, s1, ⟨F.os, F.tape, F.output, F.size, fun b hb hno => F.old b hb fun i z hr => hno i z (by rw [(e.2 i).1]; exact hr), F.ext,
    fun i b z hb hn => (F.new i b z hb hn).imp id fun ⟨j, z', hj, hj'⟩ => ⟨j, z', by rw [(e.2 j).1]; exact hj, hj'⟩, fun i hi hr => by rw [(e.2 i).1]; exact F.mono i hi hr⟩⟩
theorem CallOK.post {P : Program} {f : FuncId} {args : List AV} {v : AV} {H G H' : List AB} (h : CallOK P f args H v G) (e : HEq G H') : CallOK P f args H v H' := fun σ w rargs s hra => by
  refine (h σ w rargs s hra).mono ?_
  rintro e' w' ⟨rv, rfl, σ', r1, s1, F⟩
  exact ⟨rv, rfl, σ', r1, e.sim s1, ⟨F.os, F.tape, F.output, F.size, F.old, F.ext, F.new, fun i hi hr => F.mono i hi (by rw [(e.2 i).1]; exact hr)⟩⟩
theorem src_same {o m a : Nat} {h : Int} {l1 l2 l3 m1 m2 m3 : Bool} :
    (AB.cells true (.lit [.sl l1 0 o m 0, .i l2 .i64 (Int.ofNat a), .i l3 .u64 h])).rw = (AB.cells true (.lit [.sl m1 0 o m 0, .i m2 .i64 (Int.ofNat a), .i m3 .u64 h])).rw ∧
    (AB.cells true (.lit [.sl l1 0 o m 0, .i l2 .i64 (Int.ofNat a), .i l3 .u64 h])).live = (AB.cells true (.lit [.sl m1 0 o m 0, .i m2 .i64 (Int.ofNat a), .i m3 .u64 h])).live ∧
    ∀ σ z ob, BlkRel σ z (AB.cells true (.lit [.sl l1 0 o m 0, .i l2 .i64 (Int.ofNat a), .i l3 .u64 h])) ob → BlkRel σ z (AB.cells true (.lit [.sl m1 0 o m 0, .i m2 .i64 (Int.ofNat a), .i m3 .u64 h])) ob :=
  ⟨rfl, rfl, fun _ _ _ ⟨c, e, fr, e1, e2, e3⟩ => ⟨c, e, fr, e1, src_rel e2, e3⟩⟩

noncomputable def fromV (c : Cd) : Int := open Classical in if hx : ∃ h, CallOK Try.prog 94 [.sl false 0 c.off c.len 0] [codeB c false] (.p true 1 0) [codeB c false, srcZ c h] then hx.choose else 0
theorem fromV_ok {c : Cd} (hc : goodB c = true) : CallOK Try.prog 94 [.sl false 0 c.off c.len 0] [codeB c false] (.p true 1 0) [codeB c false, srcZ c (fromV c)] := by
  have he := from_ok hc
  unfold fromV
  rw [dif_pos he]
  exact he.choose_spec
noncomputable def fromT : Table := fun _ args H nd K =>
  match args, H with
  | [s], B :: Hr => match readSl s, readCode B with
    | some (o, n), some (o', b) => K (.p true (Hr.length + 1) 0) (B :: (Hr ++ [srcR o n 0 (fromV ⟨b, o', n⟩)])) (okB ⟨b, o', n⟩ o n :: nd)
    | _, _ => .fail
  | _, _ => .fail
theorem readSl_spec {s : AV} {o n : Nat} (h : readSl s = some (o, n)) : ∃ l, s = .sl l 0 o n 0 := by
  unfold readSl at h
  split at h <;> (try (cases h; done))
  split at h <;> cases h
  rename_i hh
  simp at hh
  obtain ⟨rfl, rfl⟩ := hh
  exact ⟨_, rfl⟩
theorem from_at : SoundAt Try.prog 94 fromT := fun args H nd K => by
  unfold fromT
  split
  case h_2 => exact .inl rfl
  rename_i s B Hr
  split
  case h_2 => exact .inl rfl
  rename_i o n o' b hs hb
  refine .inr ⟨_, _, _, rfl, fun hn => ?_⟩
  simp only [allT, Bool.and_eq_true, okB] at hn
  obtain ⟨⟨⟨hg, ho⟩, _⟩, hnd⟩ := hn
  have ho : o = o' := of_decide_eq_true ho
  subst ho
  refine ⟨hnd, ?_⟩
  obtain ⟨l, rfl⟩ := readSl_spec hs
  have hB := readCode_spec hb
  subst hB
  have h1 := ((fromV_ok hg).frame rfl rfl rfl Hr).bare (args' := [.sl l 0 o n 0]) rfl
  have h2 := h1.post (H' := AB.code o b :: (Hr ++ [srcR o n 0 (fromV ⟨b, o, n⟩)])) (by
    refine HEq.cons ⟨rfl, rfl, fun _ _ _ h => h⟩ ?_
    have : ∀ (Hr : List AB) (X Y : AB), HEq [X] [Y] → HEq (Hr ++ [X]) (Hr ++ [Y]) := by
      intro Hr X Y h
      induction Hr with
      | nil => exact h
      | cons A Hr ih => exact HEq.cons ⟨rfl, rfl, fun _ _ _ h => h⟩ ih
    exact this Hr _ _ (HEq.cons src_same (HEq.refl [])))
  have e : upV ([codeB ⟨b, o, n⟩ false] : List AB).length Hr.length (.p true 1 0) = .p true (Hr.length + 1) 0 := by
    show AV.p true (1 + Hr.length) 0 = _
    rw [Nat.add_comm]
  rw [e] at h2
  exact h2

/-- The list drawn, and the state behind it. -/
noncomputable def l10V (c : Cd) (a : Nat) (h n : Int) : List Nat × Nat × Int :=
  open Classical in if hx : ∃ r : List Nat × Nat × Int, r.1.length = n.toNat ∧ CallOK Try.prog 135 [.p true 1 0, .i false .i64 n] [codeB c false, srcB c a h] (.sl false 2 0 r.1.length 1) (drH c r.2.1 r.2.2 r.1) then hx.choose else (List.replicate n.toNat 0, a, h)
theorem l10V_length (c : Cd) (a : Nat) (h n : Int) : (l10V c a h n).1.length = n.toNat := by
  unfold l10V
  split
  · rename_i hx; exact hx.choose_spec.1
  · simp
theorem l10V_ok {c : Cd} (hc : goodB c = true) (a : Nat) (h n : Int) (h0 : 0 ≤ n) (h1 : n ≤ 5000) :
    CallOK Try.prog 135 [.p true 1 0, .i false .i64 n] [codeB c false, srcB c a h] (.sl false 2 0 (l10V c a h n).1.length 1) (drH c (l10V c a h n).2.1 (l10V c a h n).2.2 (l10V c a h n).1) := by
  obtain ⟨xs, a', h', e1, e2⟩ := l10_ok hc a h n h0 h1
  have he : ∃ r : List Nat × Nat × Int, r.1.length = n.toNat ∧ CallOK Try.prog 135 [.p true 1 0, .i false .i64 n] [codeB c false, srcB c a h] (.sl false 2 0 r.1.length 1) (drH c r.2.1 r.2.2 r.1) := ⟨(xs, a', h'), e1, e2⟩
  unfold l10V
  rw [dif_pos he]
  exact he.choose_spec.2
noncomputable def l10T : Table := fun _ args H nd K =>
  match args, H with
  | [p, .i l .i64 n], B :: S :: Hr => match p with
    | .p _ id off => match readCode B, readSrc S, decide (off = 0) && decide (id = 1) with
      | some (o', b), some (o, m, a, h), true => match chk l (decide (0 ≤ n) && decide (n ≤ 5000)) with
        | some q => K (.sl l (Hr.length + 2) 0 n.toNat 1) (B :: srcR o m (l10V ⟨b, o', m⟩ a h n).2.1 (l10V ⟨b, o', m⟩ a h n).2.2 :: (Hr ++ [.cells true (.f32 (l10V ⟨b, o', m⟩ a h n).1)])) (okB ⟨b, o', m⟩ o m :: (q ++ nd))
        | none => .fail
      | _, _, _ => .fail
    | _ => .fail
  | _, _ => .fail
theorem l10_at : SoundAt Try.prog 135 l10T := fun args H nd K => by
  unfold l10T
  split
  case h_2 => exact .inl rfl
  rename_i p l n B S Hr
  split
  case h_2 => exact .inl rfl
  rename_i lp id off
  split
  case h_2 => exact .inl rfl
  rename_i o' b o m a h hb hs h0
  split
  case h_2 => exact .inl rfl
  rename_i q hq
  refine .inr ⟨_, _, _, rfl, fun hn => ?_⟩
  simp only [allT, allT_append, Bool.and_eq_true, okB] at hn
  obtain ⟨⟨⟨hg, ho⟩, _⟩, hqt, hnd⟩ := hn
  have ho : o = o' := of_decide_eq_true ho
  subst ho
  refine ⟨hnd, ?_⟩
  have hr := chk_spec hq hqt
  simp only [Bool.and_eq_true, decide_eq_true_eq] at hr h0
  obtain ⟨rfl, rfl⟩ := h0
  have hB := readCode_spec hb
  subst hB
  obtain ⟨l1, l2, l3, rfl⟩ := readSrc_spec hs
  have h1 := ((l10V_ok hg a h n hr.1 hr.2).frame rfl rfl rfl Hr).bare (args' := [.p lp 1 0, .i l .i64 n]) rfl
  have h2 := h1.pre (H := AB.code o b :: AB.cells true (.lit [.sl l1 0 o m 0, .i l2 .i64 (Int.ofNat a), .i l3 .u64 h]) :: Hr)
    (HEq.cons ⟨rfl, rfl, fun _ _ _ h => h⟩ (HEq.cons src_same (HEq.refl Hr)))
  refine h2.weaken fun σ x r => ?_
  have e : upV ([codeB ⟨b, o, m⟩ false, srcB ⟨b, o, m⟩ a h] : List AB).length Hr.length (.sl false 2 0 (l10V ⟨b, o, m⟩ a h n).1.length 1) = .sl false (2 + Hr.length) 0 (l10V ⟨b, o, m⟩ a h n).1.length 1 := rfl
  rw [e, l10V_length, Nat.add_comm] at r
  rcases sl_cases r with ⟨_, g2, _⟩ | ⟨_, _, _, g1, g2, g3, rfl⟩
  · cases g2
  · exact .sl g1 g2 g3
noncomputable def rows3 : List (FuncId × Table) := (135, l10T) :: (94, fromT) :: rows2
theorem rows3_at : allAt Try.prog rows3 := ⟨l10_at, from_at, rows2_at⟩
end Go.Ax

/- Calls whose results lie in new blocks. -/
namespace Go.Ax
open Go Go.Proofs

/-- Blocks out of use dropped, one behind the other. -/
def dropN (k0 : Nat) : List Nat → AV → List AB → Option (AV × List AB)
  | [], v, H => some (v, H)
  | k :: ks, v, H => match Nat.ble k0 k && Nat.blt k H.length with
    | true => dropN k0 ks (renV k v) (dropB k k H)
    | false => none
section
variable {P : Program}
theorem dropN_call {f : FuncId} {args : List AV} {H0 : List AB} : ∀ {ks : List Nat} {v v' : AV} {H H' : List AB}, dropN H0.length ks v H = some (v', H') → CallOK P f args H0 v H → CallOK P f args H0 v' H'
  | [], _, _, _, _, h, k => by cases h; exact k
  | i :: ks, v, v', H, H', h, k => by
    simp only [dropN] at h
    split at h
    · rename_i hb
      rw [Bool.and_eq_true] at hb
      exact dropN_call h (k.drop i (Nat.le_of_ble_eq_true hb.1) (blt_true hb.2))
    · cases h
def leafD (k0 : Nat) (ks : List Nat) : Res → Option (AV × List AB × List Bool)
  | .ret v H nd => match dropN k0 ks v H with
    | some (v', H') => some (v', H', nd)
    | none => none
  | _ => none
theorem call_of_leaf {T : Table} {f : FuncId} {args : List AV} {H0 H' : List AB} {ks : List Nat} {dirs conds nd : List Bool} {v : AV} (hT : SoundT P T)
    (h : (condsP (T f args H0 [] fun v H nd => .ret v H nd) dirs, leafD H0.length ks ((T f args H0 [] fun v H nd => .ret v H nd).at dirs)) = (conds, some (v, H', nd))) (hc : allT conds = true) (hn : allT nd = true) : CallOK P f args H0 v H' := by
  simp only [Prod.mk.injEq] at h
  obtain ⟨h1, h2⟩ := h
  have e := sel_of_conds _ dirs (by rw [h1]; exact hc)
  generalize hl : (T f args H0 [] fun v H nd => .ret v H nd).at dirs = r at h2 e
  unfold leafD at h2
  split at h2 <;> (try (cases h2; done))
  split at h2 <;> cases h2
  rename_i hd
  exact dropN_call hd (call_of_sel hT e hn)
theorem plain_low {a : AV} (h : below 0 a = true) (n : Nat) : plainV n a = true := by
  cases a
  case p => simp [below] at h
  case sl => simp [below] at h
  all_goals exact h
theorem plain_lowL : ∀ {l : List AV}, belowL 0 l = true → ∀ n, l.all (plainV n) = true
  | [], _, _ => rfl
  | a :: l, h, n => by
    simp only [belowL, Bool.and_eq_true] at h
    simp only [List.all_cons, Bool.and_eq_true]
    exact ⟨plain_low h.1 n, plain_lowL h.2 n⟩
/-- A call without memory whose result lies in one new block. -/
theorem CallOK.fresh {f : FuncId} {args : List AV} {v : AV} {B : AB} (h : CallOK P f args [] v [B]) (hB : ∀ g, mapB g B = B) (ha : belowL 0 args = true) (H : List AB) : CallOK P f args H (mapV (pickI 0 H.length []) v) (H ++ [B]) := by
  have k := h.pick (fun i => rfl) (plain_lowL ha 0) [] rfl H (fun i hi => by simp at hi)
  rw [mapL_low _ ha] at k
  have e : (([B] : List AB).drop ([] : List AB).length).map (mapB (pickI ([] : List AB).length H.length [])) = [B] := by
    show [mapB _ B] = [B]
    rw [hB]
  rw [e] at k
  exact k
end
end Go.Ax

/- One way of an evaluation up to a place, or to the end. -/
namespace Go.Ax
open Go Go.Proofs

noncomputable def tab0 : Table := tabOf (cdeep Try.prog [] [] 3000 8)
theorem tab0_sound : SoundT Try.prog tab0 := cdeep_sound (fun p hp => by cases hp) 8
section
variable {P : Program} {T : Table}
theorem jupto_toLp (stop : List Item → Bool) (n : Nat) (L : List Item) (t : List AV) (H : List AB) : jupto P T stop n (toLp L) t H = jupto P T stop n L t H := by
  unfold toLp
  split
  · cases n with
    | zero => rfl
    | succ n =>
      unfold jupto jRun
      rw [cNext_loop stop 99]
  · rfl
theorem jupto_eq {stop : List Item → Bool} {n : Nat} {L R : List Item} (h : toLp L = toLp R) (t : List AV) (H : List AB) : jupto P T stop n L t H = jupto P T stop n R t H := by
  rw [← jupto_toLp, h, jupto_toLp]
theorem way_reach {stop : List Item → Bool} {n : Nat} {L R todo' : List Item} {p M nd : List Bool} {t0 t' : List AV} {H0 H' : List AB} (hT : SoundT P T) (hL : toLp L = toLp R) (hc : allT (condsP (jupto P T stop n R t0 H0) p) = true)
    (hl : lfM M ((jupto P T stop n R t0 H0).at p) = (true, todo', t'.map AV.bare, H', nd)) (hn : allT nd = true) : Reach P L t0 H0 todo' t' H' := by
  simp only [lfM, Prod.mk.injEq] at hl
  obtain ⟨a1, a2, a3, a4, a5⟩ := hl
  have hs := isStop_at a1 hc
  rw [← jupto_eq hL] at hs
  have hr := jupto_reach hT hs (by rw [jupto_eq hL, a5]; exact hn)
  rw [jupto_eq hL, a2, a4] at hr
  exact (hr.weak (blur_eqv M _)).weak (eqv_of_bare a3)
theorem endOfJ {stop : List Item → Bool} {n : Nat} {todo : List Item} {t0 : List AV} {H0 : List AB} {rs : List ResultVar} {r : Res} {x : Option (List AV × List Bool)} {H : List AB} {nd : List Bool} (hT : SoundT P T)
    (h : endOf P rs r = some (x, H, nd)) (hs : (jupto P T stop n todo t0 H0).sel = r.sel) (hn : allT nd = true) : ∃ t, Ends P todo t0 H0 t H ∧ resV P t H rs = x := by
  unfold endOf at h
  split at h <;> (try (cases h; done))
  split at h <;> cases h
  exact ⟨_, jupto_ends hT hs hn, rfl⟩
theorem way_ends {stop : List Item → Bool} {n : Nat} {L R : List Item} {p nd : List Bool} {t0 : List AV} {H0 H' : List AB} {rs : List ResultVar} {x : Option (List AV × List Bool)} (hT : SoundT P T) (hL : toLp L = toLp R) (hc : allT (condsP (jupto P T stop n R t0 H0) p) = true)
    (hl : endOf P rs ((jupto P T stop n R t0 H0).at p) = some (x, H', nd)) (hn : allT nd = true) : ∃ t, Ends P L t0 H0 t H' ∧ resV P t H' rs = x := by
  refine endOfJ (stop := stop) (n := n) hT hl ?_ hn
  rw [jupto_eq hL]
  exact sel_of_conds _ _ hc
end
end Go.Ax

/- laws.sum and laws.likeInts: rows. -/
namespace Go.Ax
open Go Go.Proofs

theorem ro_ints {σ τ : List (Nat × Nat)} {r : Bool} {k : IntKind} {xs : List Int} {z : Nat} {o : Option Obj} (h : BlkRel σ z (.cells r (.ints k xs)) o) : BlkRel τ z (.cells false (.ints k xs)) o := by
  obtain ⟨c, e, fr, h1, h2, h3, _⟩ := h
  refine ⟨c, e, fr, h1, fun j a ha => ?_, h3, fun h => by cases h⟩
  obtain ⟨v, hv, hr⟩ := h2 j a ha
  refine ⟨v, hv, below_free ?_ hr⟩
  simp only [Cells.toL, List.getElem?_map, Option.map_eq_some_iff] at ha
  obtain ⟨y, _, rfl⟩ := ha
  rfl
theorem ro_f32 {σ τ : List (Nat × Nat)} {r : Bool} {xs : List Nat} {z : Nat} {o : Option Obj} (h : BlkRel σ z (.cells r (.f32 xs)) o) : BlkRel τ z (.cells false (.f32 xs)) o := by
  obtain ⟨c, e, fr, h1, h2, h3, _⟩ := h
  refine ⟨c, e, fr, h1, fun j a ha => ?_, h3, fun h => by cases h⟩
  obtain ⟨v, hv, hr⟩ := h2 j a ha
  refine ⟨v, hv, below_free ?_ hr⟩
  simp only [Cells.toL, List.getElem?_map, Option.map_eq_some_iff] at ha
  obtain ⟨y, _, rfl⟩ := ha
  rfl
theorem getB_lt {H : List AB} {i : Nat} {r : Bool} {A : Cells} (h : getB H i = .cells r A) : i < H.length := by
  rcases Nat.lt_or_ge i H.length with h' | h'
  · exact h'
  · rw [getB_none h'] at h; cases h
def lb (xs : List Int) : List AB := [.cells false (.ints .i64 xs)]
def lb2 (xs ys : List Int) : List AB := [.cells false (.ints .i64 xs), .cells false (.ints .i64 ys)]
/-- A call that reads one list. -/
theorem call_read1 {P : Program} {f : FuncId} {xs : List Int} {v : AV} (h : CallOK P f [.sl false 0 0 xs.length 1] (lb xs) v (lb xs)) (hv : below 0 v = true) {H : List AB} {id : Nat} {r l : Bool} (hg : getB H id = .cells r (.ints .i64 xs)) : CallOK P f [.sl l id 0 xs.length 1] H v H := by
  have k := h.pick (fun i => by match i with
    | 0 => rfl
    | i + 1 => rfl) rfl [id] rfl H (fun i hi => by
      have : i = 0 := by simp [lb] at hi; exact hi
      subst this
      refine ⟨getB_lt hg, fun σ τ z o hb => ?_⟩
      have e : ([id] : List Nat).getD 0 0 = id := rfl
      rw [e, hg] at hb
      exact ro_ints hb)
  have e1 : (H ++ ((lb xs).drop (lb xs).length).map (mapB (pickI (lb xs).length H.length [id]))) = H := by simp [lb]
  rw [e1, mapV_low _ hv] at k
  exact k.bare rfl
theorem call_read2 {P : Program} {f : FuncId} {xs ys : List Int} {v : AV} (h : CallOK P f [.sl false 0 0 xs.length 1, .sl false 1 0 ys.length 1] (lb2 xs ys) v (lb2 xs ys)) (hv : below 0 v = true) {H : List AB} {id id' : Nat} {r r' l l' : Bool} (hg : getB H id = .cells r (.ints .i64 xs)) (hg' : getB H id' = .cells r' (.ints .i64 ys)) :
    CallOK P f [.sl l id 0 xs.length 1, .sl l' id' 0 ys.length 1] H v H := by
  have k := h.pick (fun i => by match i with
    | 0 => rfl
    | 1 => rfl
    | i + 2 => rfl) rfl [id, id'] rfl H (fun i hi => by
      match i, hi with
      | 0, _ =>
        refine ⟨getB_lt hg, fun σ τ z o hb => ?_⟩
        have e : ([id, id'] : List Nat).getD 0 0 = id := rfl
        rw [e, hg] at hb
        exact ro_ints hb
      | 1, _ =>
        refine ⟨getB_lt hg', fun σ τ z o hb => ?_⟩
        have e : ([id, id'] : List Nat).getD 1 0 = id' := rfl
        rw [e, hg'] at hb
        exact ro_ints hb
      | i + 2, hi => simp only [lb2, List.length_cons, List.length_nil] at hi; omega)
  have e1 : (H ++ ((lb2 xs ys).drop (lb2 xs ys).length).map (mapB (pickI (lb2 xs ys).length H.length [id, id']))) = H := by simp [lb2]
  rw [e1, mapV_low _ hv] at k
  exact k.bare rfl

/-! ### sum -/
noncomputable def suC : Code := Try.f33.body.getD .skip
noncomputable def su0 (xs : List Int) : Res := jupto Try.prog noT atLoop 100 [.code suC] (.sl false 0 0 xs.length 1 :: undefs 17) (lb xs)
noncomputable def suL : List Item := (su0 []).todo
noncomputable def suR : List Item := toLp suL
theorem suR_eq : toLp suR = suR := by kernel_rfl
def suT (xs : List Int) (acc : Int) (i : Nat) : List AV := [.sl false 0 0 xs.length 1, .any, .any, .i false .i64 acc, .i false .i64 (Int.ofNat i)] ++ List.replicate 13 .any
def suN (xs : List Int) (acc : Int) (i : Nat) : List AV := [.sl false 0 0 xs.length 1, .any, .any, .i false .i64 (wrapQ false .i64 (acc + xs.getD (0 + (Int.ofNat i).toNat * 1) 0)), .i false .i64 (wrapQ false .i64 (Int.ofNat i + 1))] ++ List.replicate 13 .any
def suM : List Bool := [false, true, true, false, false] ++ List.replicate 13 true
noncomputable def suU (xs : List Int) (acc : Int) (i : Nat) : Res := jupto Try.prog noT atLoop 100 suR (suT xs acc i) (lb xs)
theorem su0_ok (xs : List Int) : lfM suM (su0 xs) = (true, suL, (suT xs 0 0).map AV.bare, lb xs, []) := by kernel_rfl
theorem su_step (xs : List Int) (acc : Int) (i : Nat) : (condsP (suU xs acc i) [true], lfM suM ((suU xs acc i).at [true]), condsP (suU xs acc i) [false], endOf Try.prog Try.f33.results.toList ((suU xs acc i).at [false])) =
    ([ltQ false (Int.ofNat i) xs.length], (true, suR, (suN xs acc i).map AV.bare, lb xs, [decide (0 + (Int.ofNat i).toNat * 1 < (Cells.ints IntKind.i64 xs).len), decide (0 ≤ Int.ofNat i) && decide (Int.ofNat i < ↑xs.length)]),
     [!ltQ false (Int.ofNat i) xs.length], some (some ([.i false .i64 acc], []), lb xs, [])) := by kernel_rfl
def suA (xs : List Int) : Nat → Int
  | 0 => 0
  | i + 1 => wrapQ false .i64 (suA xs i + xs.getD i 0)
theorem ofNat_next {i : Nat} (h : i ≤ 5000) : wrapQ false .i64 (Int.ofNat i + 1) = Int.ofNat (i + 1) := by
  have : IntKind.i64.wrap (Int.ofNat i + 1) = Int.ofNat (i + 1) := by rw [wrap64_id] <;> simp <;> omega
  exact this
theorem su_go (xs : List Int) (hx : xs.length ≤ 5000) : ∀ (m i : Nat), i + m = xs.length → ∀ L, toLp L = suR → ∃ t H, Ends Try.prog L (suT xs (suA xs i) i) (lb xs) t H ∧ resV Try.prog t H Try.f33.results.toList = some ([.i false .i64 (suA xs xs.length)], []) ∧ H = lb xs
  | 0, i, hi, L, hL => by
    have : i = xs.length := by omega
    subst this
    have h := su_step xs (suA xs xs.length) xs.length
    simp only [Prod.mk.injEq] at h
    obtain ⟨_, _, c2, l2⟩ := h
    obtain ⟨t, e1, e2⟩ := way_ends (P := Try.prog) (T := noT) (stop := atLoop) (n := 100) (L := L) (R := suR) (noT_sound _) (hL.trans suR_eq.symm) (p := [false]) (t0 := suT xs (suA xs xs.length) xs.length) (H0 := lb xs) (by
      show allT (condsP (suU xs (suA xs xs.length) xs.length) [false]) = true
      rw [c2, ltQ_eq]; simp [allT]) l2 rfl
    exact ⟨t, _, e1, e2, rfl⟩
  | m + 1, i, hi, L, hL => by
    have h := su_step xs (suA xs i) i
    simp only [Prod.mk.injEq] at h
    obtain ⟨c1, l1, _, _⟩ := h
    have hr := way_reach (P := Try.prog) (T := noT) (stop := atLoop) (n := 100) (L := L) (R := suR) (noT_sound _) (hL.trans suR_eq.symm) (p := [true]) (t0 := suT xs (suA xs i) i) (H0 := lb xs) (by
      show allT (condsP (suU xs (suA xs i) i) [true]) = true
      rw [c1, ltQ_eq]; simp [allT]; omega) l1 (by simp [allT, Cells.len]; omega)
    have hN : suN xs (suA xs i) i = suT xs (suA xs (i + 1)) (i + 1) := by
      unfold suN suT
      rw [ofNat_next (by omega)]
      simp [suA]
    rw [hN] at hr
    obtain ⟨t, H, e1, e2⟩ := su_go xs hx m (i + 1) (by omega) suR suR_eq
    exact ⟨t, H, hr.ends e1, e2⟩
theorem sum_ok (xs : List Int) (hx : xs.length ≤ 5000) : CallOK Try.prog 33 [.sl false 0 0 xs.length 1] (lb xs) (.i false .i64 (suA xs xs.length)) (lb xs) := by
  have hr := way_reach (P := Try.prog) (T := noT) (stop := atLoop) (n := 100) (L := [.code suC]) (R := [.code suC]) (noT_sound _) rfl (p := []) (t0 := .sl false 0 0 xs.length 1 :: undefs 17) (H0 := lb xs) (t' := suT xs 0 0) (H' := lb xs) (M := suM) (nd := []) (todo' := suL) (by
    show allT (condsP (su0 xs) []) = true
    have : condsP (su0 xs) [] = [] := by cases su0 xs <;> rfl
    rw [this]; rfl) (by
    have h := su0_ok xs
    have e : (su0 xs).at [] = su0 xs := by cases su0 xs <;> rfl
    show lfM suM ((su0 xs).at []) = _
    rw [e]; exact h) rfl
  obtain ⟨t, H, e1, e2, rfl⟩ := su_go xs hx xs.length 0 (by omega) suL rfl
  have hb : Try.f33.body = some suC := rfl
  exact call_of_ends (args := [.sl false 0 0 xs.length 1]) (m := []) Try.func33 hb (hr.ends e1) e2 rfl
/-- Lists of whole numbers. -/
def intsAt (H : List AB) : AV → Option (List Int × List Bool)
  | .sl _ id off len z => match getB H id with
    | .cells _ (.ints k xs) => match Nat.beq (ikIx k) 3 with
      | true => some (xs, [decide (off = 0) && decide (z = 1), decide (len = xs.length), decide (len ≤ 5000)])
      | false => none
    | _ => none
  | _ => none
theorem intsAt_spec {H : List AB} {a : AV} {xs : List Int} {q : List Bool} (h : intsAt H a = some (xs, q)) (hq : allT q = true) : ∃ l id r, a = .sl l id 0 xs.length 1 ∧ getB H id = .cells r (.ints .i64 xs) ∧ xs.length ≤ 5000 := by
  unfold intsAt at h
  split at h <;> (try (cases h; done))
  rename_i l id off len z
  split at h <;> (try (cases h; done))
  rename_i r k ys hg
  split at h <;> cases h
  rename_i hk
  have hk := ikIx_inj (k := k) (k' := .i64) hk
  subst hk
  simp only [allT, Bool.and_eq_true, decide_eq_true_eq, Bool.and_true] at hq
  obtain ⟨⟨rfl, rfl⟩, rfl, h5⟩ := hq
  exact ⟨l, id, r, rfl, hg, h5⟩
def sumT : Table := fun _ args H nd K =>
  match args with
  | [a] => match intsAt H a with
    | some (xs, q) => K (.i false .i64 (suA xs xs.length)) H (q ++ nd)
    | none => .fail
  | _ => .fail
theorem sum_at : SoundAt Try.prog 33 sumT := fun args H nd K => by
  unfold sumT
  split
  case h_2 => exact .inl rfl
  split
  case h_2 => exact .inl rfl
  rename_i a _ xs q hi
  refine .inr ⟨_, _, _, rfl, fun hn => ?_⟩
  rw [allT_append, Bool.and_eq_true] at hn
  obtain ⟨l, id, r, rfl, hg, h5⟩ := intsAt_spec hi hn.1
  exact ⟨hn.2, call_read1 (sum_ok xs h5) rfl hg⟩

/-! ### likeInts -/
noncomputable def lkC : Code := Try.f42.body.getD .skip
noncomputable def lk0 (xs ys : List Int) : Res := jupto Try.prog noT atLoop 100 [.code lkC] (.sl false 0 0 xs.length 1 :: .sl false 1 0 ys.length 1 :: undefs 24) (lb2 xs ys)
noncomputable def lkL : List Item := ((lk0 [] []).at [false]).todo
noncomputable def lkR : List Item := toLp lkL
theorem lkR_eq : toLp lkR = lkR := by kernel_rfl
def lkT (xs ys : List Int) (i : Nat) : List AV := [.sl false 0 0 xs.length 1, .sl false 1 0 ys.length 1, .any, .any, .any, .i false .i64 (Int.ofNat i)] ++ List.replicate 20 .any
def lkN (xs ys : List Int) (i : Nat) : List AV := [.sl false 0 0 xs.length 1, .sl false 1 0 ys.length 1, .any, .any, .any, .i false .i64 (wrapQ false .i64 (Int.ofNat i + 1))] ++ List.replicate 20 .any
def lkM : List Bool := [false, false, true, true, true, false] ++ List.replicate 20 true
noncomputable def lkU (xs ys : List Int) (i : Nat) : Res := jupto Try.prog noT atLoop 100 lkR (lkT xs ys i) (lb2 xs ys)
theorem lk0_ok (xs ys : List Int) : (condsP (lk0 xs ys) [false], lfM lkM ((lk0 xs ys).at [false]), condsP (lk0 xs ys) [true], endOf Try.prog Try.f42.results.toList ((lk0 xs ys).at [true])) =
    ([!!eqQ false xs.length ys.length], (true, lkL, (lkT xs ys 0).map AV.bare, lb2 xs ys, []), [!eqQ false xs.length ys.length], some (some ([.b true false], []), lb2 xs ys, [])) := by kernel_rfl
def lkQ (xs ys : List Int) (i : Nat) : List Bool := [decide (0 + (Int.ofNat i).toNat * 1 < (Cells.ints IntKind.i64 ys).len), decide (0 ≤ Int.ofNat i) && decide (Int.ofNat i < ↑ys.length),
  decide (0 + (Int.ofNat i).toNat * 1 < (Cells.ints IntKind.i64 xs).len), decide (0 ≤ Int.ofNat i) && decide (Int.ofNat i < ↑xs.length)]
def lkE (xs ys : List Int) (i : Nat) : Bool := eqQ false (xs.getD (0 + (Int.ofNat i).toNat * 1) 0) (ys.getD (0 + (Int.ofNat i).toNat * 1) 0)
theorem lk_step (xs ys : List Int) (i : Nat) : (condsP (lkU xs ys i) [true, false], lfM lkM ((lkU xs ys i).at [true, false]), condsP (lkU xs ys i) [false], endOf Try.prog Try.f42.results.toList ((lkU xs ys i).at [false]), condsP (lkU xs ys i) [true, true], endOf Try.prog Try.f42.results.toList ((lkU xs ys i).at [true, true])) =
    ([ltQ false (Int.ofNat i) xs.length, !!lkE xs ys i], (true, lkR, (lkN xs ys i).map AV.bare, lb2 xs ys, lkQ xs ys i),
     [!ltQ false (Int.ofNat i) xs.length], some (some ([.b true true], []), lb2 xs ys, []),
     [ltQ false (Int.ofNat i) xs.length, !lkE xs ys i], some (some ([.b true false], []), lb2 xs ys, lkQ xs ys i)) := by kernel_rfl
theorem lk_go (xs ys : List Int) (hl : xs.length = ys.length) (hx : xs.length ≤ 5000) : ∀ (m i : Nat), i + m = xs.length → xs.take i = ys.take i → ∀ L, toLp L = lkR → ∃ t b, Ends Try.prog L (lkT xs ys i) (lb2 xs ys) t (lb2 xs ys) ∧ resV Try.prog t (lb2 xs ys) Try.f42.results.toList = some ([.b b (xs == ys)], [])
  | 0, i, hi, hp, L, hL => by
    have : i = xs.length := by omega
    subst this
    have h := lk_step xs ys xs.length
    simp only [Prod.mk.injEq] at h
    obtain ⟨_, _, c2, l2, _⟩ := h
    obtain ⟨t, e1, e2⟩ := way_ends (P := Try.prog) (T := noT) (stop := atLoop) (n := 100) (L := L) (R := lkR) (noT_sound _) (hL.trans lkR_eq.symm) (p := [false]) (t0 := lkT xs ys xs.length) (H0 := lb2 xs ys) (by
      show allT (condsP (lkU xs ys xs.length) [false]) = true
      rw [c2, ltQ_eq]; simp [allT]) l2 rfl
    refine ⟨t, true, e1, ?_⟩
    have : xs = ys := by
      have h1 : xs.take xs.length = xs := List.take_length
      have h2 : ys.take xs.length = ys := by rw [hl]; exact List.take_length
      rw [← h1, hp, h2]
    rw [e2, this]; simp
  | m + 1, i, hi, hp, L, hL => by
    have h := lk_step xs ys i
    simp only [Prod.mk.injEq] at h
    obtain ⟨c1, l1, _, _, c3, l3⟩ := h
    have hq : allT (lkQ xs ys i) = true := by simp [lkQ, allT, Cells.len]; omega
    have hlt : ltQ false (Int.ofNat i) xs.length = true := by rw [ltQ_eq]; simp; omega
    have hix : i < xs.length := by omega
    have hiy : i < ys.length := by omega
    have hE : lkE xs ys i = (xs[i] == ys[i]) := by
      unfold lkE
      rw [eqQ_eq]
      simp [List.getD_eq_getElem?_getD, hix, hiy]
    cases he : lkE xs ys i with
    | true =>
      have hr := way_reach (P := Try.prog) (T := noT) (stop := atLoop) (n := 100) (L := L) (R := lkR) (noT_sound _) (hL.trans lkR_eq.symm) (p := [true, false]) (t0 := lkT xs ys i) (H0 := lb2 xs ys) (by
        show allT (condsP (lkU xs ys i) [true, false]) = true
        rw [c1, hlt, he]; rfl) l1 hq
      have hN : lkN xs ys i = lkT xs ys (i + 1) := by
        unfold lkN lkT
        rw [ofNat_next (by omega)]
      rw [hN] at hr
      have he' := hE.symm.trans he
      rw [beq_iff_eq] at he'
      obtain ⟨t, b, e1, e2⟩ := lk_go xs ys hl hx m (i + 1) (by omega) (by
        rw [List.take_succ_eq_append_getElem hix, List.take_succ_eq_append_getElem hiy, hp, he']) lkR lkR_eq
      exact ⟨t, b, hr.ends e1, e2⟩
    | false =>
      obtain ⟨t, e1, e2⟩ := way_ends (P := Try.prog) (T := noT) (stop := atLoop) (n := 100) (L := L) (R := lkR) (noT_sound _) (hL.trans lkR_eq.symm) (p := [true, true]) (t0 := lkT xs ys i) (H0 := lb2 xs ys) (by
        show allT (condsP (lkU xs ys i) [true, true]) = true
        rw [c3, hlt, he]; rfl) l3 hq
      refine ⟨t, true, e1, ?_⟩
      have : (xs == ys) = false := by
        rw [hE] at he
        rw [beq_eq_false_iff_ne] at he ⊢
        intro h
        subst h
        exact he rfl
      rw [e2, this]
theorem like_ok (xs ys : List Int) (hx : xs.length ≤ 5000) : CallOK Try.prog 42 [.sl false 0 0 xs.length 1, .sl false 1 0 ys.length 1] (lb2 xs ys) (.b false (xs == ys)) (lb2 xs ys) := by
  have h := lk0_ok xs ys
  simp only [Prod.mk.injEq] at h
  obtain ⟨c1, l1, c2, l2⟩ := h
  have hb : Try.f42.body = some lkC := rfl
  by_cases hl : xs.length = ys.length
  · have hr := way_reach (P := Try.prog) (T := noT) (stop := atLoop) (n := 100) (L := [.code lkC]) (R := [.code lkC]) (noT_sound _) rfl (p := [false]) (t0 := .sl false 0 0 xs.length 1 :: .sl false 1 0 ys.length 1 :: undefs 24) (H0 := lb2 xs ys) (by
      show allT (condsP (lk0 xs ys) [false]) = true
      rw [c1, eqQ_eq, hl]; simp [allT]) l1 rfl
    obtain ⟨t, b, e1, e2⟩ := lk_go xs ys hl hx xs.length 0 (by omega) rfl lkL rfl
    have := call_of_ends (args := [.sl false 0 0 xs.length 1, .sl false 1 0 ys.length 1]) (m := []) Try.func42 hb (hr.ends e1) e2 rfl
    exact this.weaken fun σ x r => by cases r; exact .b _
  · obtain ⟨t, e1, e2⟩ := way_ends (P := Try.prog) (T := noT) (stop := atLoop) (n := 100) (L := [.code lkC]) (R := [.code lkC]) (noT_sound _) rfl (p := [true]) (t0 := .sl false 0 0 xs.length 1 :: .sl false 1 0 ys.length 1 :: undefs 24) (H0 := lb2 xs ys) (by
      show allT (condsP (lk0 xs ys) [true]) = true
      rw [c2, eqQ_eq]; simp [allT]; omega) l2 rfl
    have := call_of_ends (args := [.sl false 0 0 xs.length 1, .sl false 1 0 ys.length 1]) (m := []) Try.func42 hb e1 e2 rfl
    have e : (xs == ys) = false := by
      rw [beq_eq_false_iff_ne]
      intro h; exact hl (by rw [h])
    rw [e]
    exact this.weaken fun σ x r => by cases r; exact .b _
theorem like_nil : joinR 0 (tab0 42 [.slnil, .slnil] [] [] fun v H nd => .ret v H nd) = some (.b true true, []) := by kernel_rfl
def likeT : Table := fun _ args H nd K =>
  match args with
  | [a, b] => match intsAt H a, intsAt H b with
    | some (xs, q), some (ys, q') => K (.b false (xs == ys)) H (q ++ (q' ++ nd))
    | _, _ => match a, b with
      | .slnil, .slnil => K (.b true true) H nd
      | _, _ => .fail
  | _ => .fail
theorem like_at : SoundAt Try.prog 42 likeT := fun args H nd K => by
  unfold likeT
  split
  case h_2 => exact .inl rfl
  split
  · rename_i a b xs q ys q' hi hj
    refine .inr ⟨_, _, _, rfl, fun hn => ?_⟩
    rw [allT_append, allT_append, Bool.and_eq_true, Bool.and_eq_true] at hn
    obtain ⟨l, id, r, rfl, hg, h5⟩ := intsAt_spec hi hn.1
    obtain ⟨l', id', r', rfl, hg', _⟩ := intsAt_spec hj hn.2.1
    exact ⟨hn.2.2, call_read2 (like_ok xs ys h5) rfl hg hg'⟩
  · split
    case h_2 => exact .inl rfl
    exact .inr ⟨_, _, _, rfl, fun hn => ⟨hn, call_of_join tab0_sound like_nil rfl rfl H⟩⟩
end Go.Ax

/- Lists of floats: impl.areNumbers, spec.l10Fine, laws.lists9. -/
namespace Go.Ax
open Go Go.Proofs

/-- What a loop that looks for a place comes to. -/
def scanV (bad : Nat → AV) (good : AV) (b : Nat → Bool) : Nat → Nat → AV
  | 0, _ => good
  | m + 1, i => cond (b i) (bad i) (scanV bad good b m (i + 1))
theorem scan_go {P : Program} {R : List Item} {S : Nat → List AV} {H : List AB} {rs : List ResultVar} {len : Nat} {b : Nat → Bool} {bad : Nat → AV} {good : AV} (hR : toLp R = R)
    (hc : ∀ i, i < len → b i = false → ∀ L, toLp L = R → Reach P L (S i) H R (S (i + 1)) H)
    (hx : ∀ i, i < len → b i = true → ∀ L, toLp L = R → ∃ t, Ends P L (S i) H t H ∧ resV P t H rs = some ([bad i], []))
    (he : ∀ L, toLp L = R → ∃ t, Ends P L (S len) H t H ∧ resV P t H rs = some ([good], [])) :
    ∀ (m i : Nat), i + m = len → ∀ L, toLp L = R → ∃ t, Ends P L (S i) H t H ∧ resV P t H rs = some ([scanV bad good b m i], [])
  | 0, i, hi, L, hL => by
    have : i = len := by omega
    subst this
    exact he L hL
  | m + 1, i, hi, L, hL => by
    unfold scanV
    cases hb : b i with
    | true => exact hx i (by omega) hb L hL
    | false =>
      obtain ⟨t, e1, e2⟩ := scan_go hR hc hx he m (i + 1) (by omega) R hR
      exact ⟨t, (hc i (by omega) hb L hL).ends e1, e2⟩
def allN (p : Nat → Bool) : Nat → Nat → Bool
  | 0, _ => true
  | m + 1, i => p i && allN p m (i + 1)
theorem allN_iff (p : Nat → Bool) : ∀ m i, allN p m i = true ↔ ∀ j, j < m → p (i + j) = true
  | 0, i => by simp [allN]
  | m + 1, i => by
    rw [allN, Bool.and_eq_true, allN_iff p m (i + 1)]
    constructor
    · rintro ⟨h0, h⟩ j hj
      cases j with
      | zero => exact h0
      | succ j => have := h j (by omega); rwa [show i + 1 + j = i + (j + 1) by omega] at this
    · intro h
      refine ⟨h 0 (by omega), fun j hj => ?_⟩
      have := h (j + 1) (by omega)
      rwa [show i + (j + 1) = i + 1 + j by omega] at this
theorem scanV_bool {l l' : Bool} (b : Nat → Bool) : ∀ m i {σ : List (Nat × Nat)} {x : Value}, Rel σ (scanV (fun _ => .b l false) (.b l' true) b m i) x → Rel σ (.b false (allN (fun j => !b j) m i)) x
  | 0, i, σ, x, r => by cases r; exact .b _
  | m + 1, i, σ, x, r => by
    unfold scanV at r
    unfold allN
    cases hb : b i with
    | true => rw [hb] at r; cases r; exact .b _
    | false => rw [hb] at r; rw [Bool.not_false, Bool.true_and]; exact scanV_bool b m (i + 1) r

def fb (xs : List Nat) : List AB := [.cells false (.f32 xs)]
def fb2 (xs ys : List Nat) : List AB := [.cells false (.f32 xs), .cells false (.f32 ys)]
noncomputable def finI (xs : List Nat) (i : Nat) : Bool := finB (xs.getD (0 + (Int.ofNat i).toNat * 1) 0)
def idxQ (xs : List Nat) (i : Nat) : List Bool := [decide (0 + (Int.ofNat i).toNat * 1 < (Cells.f32 xs).len), decide (0 ≤ Int.ofNat i) && decide (Int.ofNat i < ↑xs.length)]
theorem idxQ_ok {xs : List Nat} {i : Nat} (h : i < xs.length) : allT (idxQ xs i) = true := by simp [idxQ, allT, Cells.len]; omega
theorem ltQ_true {i n : Nat} (h : i < n) : ltQ false (Int.ofNat i) (n : Int) = true := by rw [ltQ_eq]; simp; omega
theorem ltQ_same (n : Nat) : ltQ false (Int.ofNat n) (n : Int) = false := by rw [ltQ_eq]; simp
noncomputable def finL (xs : List Nat) : Bool := allN (fun i => finI xs i) xs.length 0
theorem not_not_fun {xs : List Nat} : (fun j => !!finI xs j) = fun i => finI xs i := funext fun _ => Bool.not_not _

/-! ### spec.l10Fine -/
noncomputable def fnC : Code := Try.f150.body.getD .skip
noncomputable def fn0 (xs : List Nat) (z : Nat) : Res := jupto Try.prog tab0 atLoop 100 [.code fnC] (.sl false 0 0 xs.length z :: undefs 15) (fb xs)
noncomputable def fnL : List Item := (fn0 [] 0).todo
noncomputable def fnR : List Item := toLp fnL
theorem fnR_eq : toLp fnR = fnR := by kernel_rfl
def fnT (xs : List Nat) (z : Nat) (i : Nat) : List AV := [.sl false 0 0 xs.length z, .any, .any, .i false .i64 (Int.ofNat i)] ++ List.replicate 12 .any
def fnN (xs : List Nat) (z : Nat) (i : Nat) : List AV := [.sl false 0 0 xs.length z, .any, .any, .i false .i64 (wrapQ false .i64 (Int.ofNat i + 1))] ++ List.replicate 12 .any
def fnM : List Bool := [false, true, true, false] ++ List.replicate 12 true
noncomputable def fnU (xs : List Nat) (z : Nat) (i : Nat) : Res := jupto Try.prog tab0 atLoop 100 fnR (fnT xs z i) (fb xs)
theorem fn0_ok (xs : List Nat) (z : Nat) : (condsP (fn0 xs z) [], lfM fnM ((fn0 xs z).at [])) = ([], (true, fnL, (fnT xs z 0).map AV.bare, fb xs, [])) := by kernel_rfl
theorem fn_step (xs : List Nat) (z : Nat) (i : Nat) : ((condsP (fnU xs z i) [true, false], lfM fnM ((fnU xs z i).at [true, false])), (condsP (fnU xs z i) [false], endOf Try.prog Try.f150.results.toList ((fnU xs z i).at [false])), (condsP (fnU xs z i) [true, true], endOf Try.prog Try.f150.results.toList ((fnU xs z i).at [true, true]))) =
    (([ltQ false (Int.ofNat i) xs.length, !!finI xs i], (true, fnR, (fnN xs z i).map AV.bare, fb xs, idxQ xs i)),
     ([!ltQ false (Int.ofNat i) xs.length], some (some ([.b true true], []), fb xs, [])),
     ([ltQ false (Int.ofNat i) xs.length, !finI xs i], some (some ([.b true false], []), fb xs, idxQ xs i))) := by kernel_rfl
theorem fine_ok (xs : List Nat) (z : Nat) (hx : xs.length ≤ 5000) : CallOK Try.prog 150 [.sl false 0 0 xs.length z] (fb xs) (.b false (finL xs)) (fb xs) := by
  have h0 := fn0_ok xs z
  simp only [Prod.mk.injEq] at h0
  have hr := way_reach (P := Try.prog) (T := tab0) (stop := atLoop) (n := 100) (L := [.code fnC]) (R := [.code fnC]) (p := []) (t0 := .sl false 0 0 xs.length z :: undefs 15) (H0 := fb xs) (t' := fnT xs z 0) (H' := fb xs) (M := fnM) (nd := []) (todo' := fnL) tab0_sound rfl (by show allT (condsP (fn0 xs z) []) = true; rw [h0.1]; rfl) h0.2 rfl
  have hs := fun i => fn_step xs z i
  simp only [Prod.mk.injEq] at hs
  obtain ⟨t, e1, e2⟩ := scan_go (P := Try.prog) (R := fnR) (S := fnT xs z) (H := fb xs) (rs := Try.f150.results.toList) (len := xs.length) (b := fun i => !finI xs i) (bad := fun _ => .b true false) (good := .b true true) fnR_eq
    (fun i hi hb L hL => by
      obtain ⟨⟨c1, l1⟩, _, _⟩ := hs i
      have := way_reach (P := Try.prog) (T := tab0) (stop := atLoop) (n := 100) (L := L) (R := fnR) (p := [true, false]) (t0 := fnT xs z i) (H0 := fb xs) tab0_sound (hL.trans fnR_eq.symm) (by
        show allT (condsP (fnU xs z i) [true, false]) = true
        rw [c1, ltQ_true hi, hb]; rfl) l1 (idxQ_ok hi)
      have hN : fnN xs z i = fnT xs z (i + 1) := by unfold fnN fnT; rw [ofNat_next (by omega)]
      rwa [hN] at this)
    (fun i hi hb L hL => by
      obtain ⟨_, _, ⟨c1, l1⟩⟩ := hs i
      exact way_ends (P := Try.prog) (T := tab0) (stop := atLoop) (n := 100) (L := L) (R := fnR) (p := [true, true]) (t0 := fnT xs z i) (H0 := fb xs) tab0_sound (hL.trans fnR_eq.symm) (by
        show allT (condsP (fnU xs z i) [true, true]) = true
        rw [c1, ltQ_true hi, hb]; rfl) l1 (idxQ_ok hi))
    (fun L hL => by
      obtain ⟨_, ⟨c1, l1⟩, _⟩ := hs xs.length
      exact way_ends (P := Try.prog) (T := tab0) (stop := atLoop) (n := 100) (L := L) (R := fnR) (p := [false]) (t0 := fnT xs z xs.length) (H0 := fb xs) tab0_sound (hL.trans fnR_eq.symm) (by
        show allT (condsP (fnU xs z xs.length) [false]) = true
        rw [c1, ltQ_same]; rfl) l1 rfl)
    xs.length 0 (by omega) fnL rfl
  have hb : Try.f150.body = some fnC := rfl
  have := call_of_ends (args := [.sl false 0 0 xs.length z]) (m := []) Try.func150 hb (hr.ends e1) e2 rfl
  refine this.weaken fun σ x r => ?_
  have := scanV_bool _ _ _ r
  rwa [not_not_fun] at this

/-! ### impl.areNumbers -/
noncomputable def ixC : Code := Try.f234.body.getD .skip
def ixF : AV := .fn 270 [] []
noncomputable def ix0 (xs : List Nat) (z : Nat) : Res := jupto Try.prog tab0 atLoop 100 [.code ixC] (.sl false 0 0 xs.length z :: ixF :: undefs 17) (fb xs)
noncomputable def ixL : List Item := (ix0 [] 0).todo
noncomputable def ixR : List Item := toLp ixL
theorem ixR_eq : toLp ixR = ixR := by kernel_rfl
def ixT (xs : List Nat) (z : Nat) (i : Nat) : List AV := [.sl false 0 0 xs.length z, ixF, .any, .any, .any, .any, .any, .i false .i64 xs.length, .i false .i64 (Int.ofNat i)] ++ List.replicate 10 .any
def ixN (xs : List Nat) (z : Nat) (i : Nat) : List AV := [.sl false 0 0 xs.length z, ixF, .any, .any, .any, .any, .any, .i false .i64 xs.length, .i false .i64 (wrapQ false .i64 (Int.ofNat i + 1))] ++ List.replicate 10 .any
def ixM : List Bool := [false, false, true, true, true, true, true, false, false] ++ List.replicate 10 true
noncomputable def ixU (xs : List Nat) (z : Nat) (i : Nat) : Res := jupto Try.prog tab0 atLoop 100 ixR (ixT xs z i) (fb xs)
theorem ix0_ok (xs : List Nat) (z : Nat) : (condsP (ix0 xs z) [], lfM ixM ((ix0 xs z).at [])) = ([], (true, ixL, (ixT xs z 0).map AV.bare, fb xs, [])) := by kernel_rfl
theorem ix_step (xs : List Nat) (z : Nat) (i : Nat) : ((condsP (ixU xs z i) [true, false], lfM ixM ((ixU xs z i).at [true, false])), (condsP (ixU xs z i) [false], endOf Try.prog Try.f234.results.toList ((ixU xs z i).at [false])), (condsP (ixU xs z i) [true, true], endOf Try.prog Try.f234.results.toList ((ixU xs z i).at [true, true]))) =
    (([ltQ false (Int.ofNat i) xs.length, !!finI xs i], (true, ixR, (ixN xs z i).map AV.bare, fb xs, idxQ xs i)),
     ([!ltQ false (Int.ofNat i) xs.length], some (some ([.i true .i64 (-1)], []), fb xs, [])),
     ([ltQ false (Int.ofNat i) xs.length, !finI xs i], some (some ([.i false .i64 (Int.ofNat i)], []), fb xs, idxQ xs i))) := by kernel_rfl
def firstN (b : Nat → Bool) : Nat → Nat → Int
  | 0, _ => -1
  | m + 1, i => cond (b i) (Int.ofNat i) (firstN b m (i + 1))
theorem firstN_neg (b : Nat → Bool) : ∀ m i, (!decide (0 ≤ firstN b m i)) = allN (fun j => !b j) m i
  | 0, _ => rfl
  | m + 1, i => by
    unfold firstN allN
    cases b i with
    | true => simp
    | false => simpa using firstN_neg b m (i + 1)
theorem scanV_idx (b : Nat → Bool) : ∀ m i {σ : List (Nat × Nat)} {x : Value}, Rel σ (scanV (fun i => .i false .i64 (Int.ofNat i)) (.i true .i64 (-1)) b m i) x → Rel σ (.i false .i64 (firstN b m i)) x
  | 0, i, σ, x, r => by cases r; exact .i _ _
  | m + 1, i, σ, x, r => by
    unfold scanV at r
    unfold firstN
    cases hb : b i with
    | true => rw [hb] at r; exact r
    | false => rw [hb] at r; exact scanV_idx b m (i + 1) r
theorem index_ok (xs : List Nat) (z : Nat) (hx : xs.length ≤ 5000) : CallOK Try.prog 234 [.sl false 0 0 xs.length z, ixF] (fb xs) (.i false .i64 (firstN (fun i => !finI xs i) xs.length 0)) (fb xs) := by
  have h0 := ix0_ok xs z
  simp only [Prod.mk.injEq] at h0
  have hr := way_reach (P := Try.prog) (T := tab0) (stop := atLoop) (n := 100) (L := [.code ixC]) (R := [.code ixC]) (p := []) (t0 := .sl false 0 0 xs.length z :: ixF :: undefs 17) (H0 := fb xs) (t' := ixT xs z 0) (H' := fb xs) (M := ixM) (nd := []) (todo' := ixL) tab0_sound rfl (by show allT (condsP (ix0 xs z) []) = true; rw [h0.1]; rfl) h0.2 rfl
  have hs := fun i => ix_step xs z i
  simp only [Prod.mk.injEq] at hs
  obtain ⟨t, e1, e2⟩ := scan_go (P := Try.prog) (R := ixR) (S := ixT xs z) (H := fb xs) (rs := Try.f234.results.toList) (len := xs.length) (b := fun i => !finI xs i) (bad := fun i => .i false .i64 (Int.ofNat i)) (good := .i true .i64 (-1)) ixR_eq
    (fun i hi hb L hL => by
      obtain ⟨⟨c1, l1⟩, _, _⟩ := hs i
      have := way_reach (P := Try.prog) (T := tab0) (stop := atLoop) (n := 100) (L := L) (R := ixR) (p := [true, false]) (t0 := ixT xs z i) (H0 := fb xs) tab0_sound (hL.trans ixR_eq.symm) (by
        show allT (condsP (ixU xs z i) [true, false]) = true
        rw [c1, ltQ_true hi, hb]; rfl) l1 (idxQ_ok hi)
      have hN : ixN xs z i = ixT xs z (i + 1) := by unfold ixN ixT; rw [ofNat_next (by omega)]
      rwa [hN] at this)
    (fun i hi hb L hL => by
      obtain ⟨_, _, ⟨c1, l1⟩⟩ := hs i
      exact way_ends (P := Try.prog) (T := tab0) (stop := atLoop) (n := 100) (L := L) (R := ixR) (p := [true, true]) (t0 := ixT xs z i) (H0 := fb xs) tab0_sound (hL.trans ixR_eq.symm) (by
        show allT (condsP (ixU xs z i) [true, true]) = true
        rw [c1, ltQ_true hi, hb]; rfl) l1 (idxQ_ok hi))
    (fun L hL => by
      obtain ⟨_, ⟨c1, l1⟩, _⟩ := hs xs.length
      exact way_ends (P := Try.prog) (T := tab0) (stop := atLoop) (n := 100) (L := L) (R := ixR) (p := [false]) (t0 := ixT xs z xs.length) (H0 := fb xs) tab0_sound (hL.trans ixR_eq.symm) (by
        show allT (condsP (ixU xs z xs.length) [false]) = true
        rw [c1, ltQ_same]; rfl) l1 rfl)
    xs.length 0 (by omega) ixL rfl
  have hb : Try.f234.body = some ixC := rfl
  have := call_of_ends (args := [.sl false 0 0 xs.length z, ixF]) (m := []) Try.func234 hb (hr.ends e1) e2 rfl
  exact this.weaken fun σ x r => scanV_idx _ _ _ r

/-! ### Lists in memory -/
def f32Of : Cells → Option (List Nat)
  | .f32 xs => some xs
  | .lit L => asF32 L
  | _ => none
/-- The list of floats that a slice names. -/
def floatsAt (H : List AB) : AV → Option (List Nat × List Bool)
  | .sl _ id off len _ => match getB H id with
    | .cells _ A => match A with
      | .lit L => match asF32 L with
        | some xs => match Nat.beq off 0 && (Nat.beq len xs.length && Nat.ble len 5000) with
          | true => some (xs, [])
          | false => none
        | none => none
      | A => match f32Of A with
        | some xs => some (xs, [decide (off = 0), decide (len = xs.length), decide (len ≤ 5000)])
        | none => none
    | _ => none
  | _ => none
theorem asF32_bare : ∀ {l : List AV} {xs : List Nat}, asF32 l = some xs → l.map AV.bare = xs.map (.f false .f32)
  | [], xs, h => by cases h; rfl
  | a :: l, xs, h => by
    unfold asF32 at h
    split at h <;> (try (cases h; done))
    · rename_i e; cases e
    · rename_i x l' e
      cases e
      split at h <;> cases h
      rename_i r hr
      simp [AV.bare, asF32_bare hr]
theorem ro_floats {σ τ : List (Nat × Nat)} {r : Bool} {A : Cells} {xs : List Nat} {z : Nat} {o : Option Obj} (hA : f32Of A = some xs) (h : BlkRel σ z (.cells r A) o) : BlkRel τ z (.cells false (.f32 xs)) o := by
  have h2 : BlkRel σ z (.cells false (.f32 xs)) o := by
    cases A
    case f32 ys => cases hA; obtain ⟨c, e, fr, h1, h2, h3, _⟩ := h; exact ⟨c, e, fr, h1, h2, h3, fun h => by cases h⟩
    case lit L =>
      obtain ⟨c, e, fr, h1, h2, h3, _⟩ := h
      refine ⟨c, e, fr, h1, ?_, h3, fun h => by cases h⟩
      refine relA_bare (A := L) ?_ h2
      rw [asF32_bare hA]
      simp [Cells.toL, AV.bare]
    all_goals cases hA
  exact ro_f32 h2
theorem floatsAt_spec {H : List AB} {a : AV} {xs : List Nat} {q : List Bool} (h : floatsAt H a = some (xs, q)) (hq : allT q = true) : ∃ l id r A z, a = .sl l id 0 xs.length z ∧ getB H id = .cells r A ∧ f32Of A = some xs ∧ xs.length ≤ 5000 := by
  unfold floatsAt at h
  split at h <;> (try (cases h; done))
  rename_i l id off len z
  split at h <;> (try (cases h; done))
  rename_i r A hg
  split at h
  · rename_i L
    split at h <;> (try (cases h; done))
    rename_i ys hy
    split at h <;> cases h
    rename_i hc
    simp only [Bool.and_eq_true] at hc
    obtain ⟨h1, h2, h3⟩ := hc
    have h1 := Nat.eq_of_beq_eq_true h1
    have h2 := Nat.eq_of_beq_eq_true h2
    have h3 := Nat.le_of_ble_eq_true h3
    subst h1; subst h2
    exact ⟨l, id, r, _, z, rfl, hg, hy, h3⟩
  · split at h <;> cases h
    rename_i hA
    simp only [allT, Bool.and_eq_true, decide_eq_true_eq, Bool.and_true] at hq
    obtain ⟨rfl, rfl, h5⟩ := hq
    exact ⟨l, id, r, A, z, rfl, hg, hA, h5⟩
theorem call_floats1 {P : Program} {f : FuncId} {xs : List Nat} {v : AV} {z : Nat} {rest : List AV} (h : CallOK P f (.sl false 0 0 xs.length z :: rest) (fb xs) v (fb xs)) (hv : below 0 v = true) (hr : belowL 0 rest = true) {H : List AB} {id : Nat} {r l : Bool} {A : Cells} (hg : getB H id = .cells r A) (hA : f32Of A = some xs) : CallOK P f (.sl l id 0 xs.length z :: rest) H v H := by
  have k := h.pick (fun i => by match i with
    | 0 => rfl
    | i + 1 => rfl) (by
      rw [List.all_cons, Bool.and_eq_true]
      exact ⟨rfl, plain_lowL hr _⟩) [id] rfl H (fun i hi => by
      have : i = 0 := by simp [fb] at hi; exact hi
      subst this
      refine ⟨getB_lt hg, fun σ τ z o hb => ?_⟩
      have e : ([id] : List Nat).getD 0 0 = id := rfl
      rw [e, hg] at hb
      exact ro_floats hA hb)
  have e1 : (H ++ ((fb xs).drop (fb xs).length).map (mapB (pickI (fb xs).length H.length [id]))) = H := by simp [fb]
  rw [e1, mapV_low _ hv] at k
  have e2 : mapL (pickI (fb xs).length H.length [id]) (.sl false 0 0 xs.length z :: rest) = .sl false id 0 xs.length z :: rest := by
    simp only [mapL, mapL_low _ hr]
    rfl
  rw [e2] at k
  exact k.bare rfl
noncomputable def finT : Table := fun _ args H nd K =>
  match args with
  | [a] => match floatsAt H a with
    | some (xs, q) => K (.b false (finL xs)) H (q ++ nd)
    | none => .fail
  | _ => .fail
theorem fine_at : SoundAt Try.prog 150 finT := fun args H nd K => by
  unfold finT
  split
  case h_2 => exact .inl rfl
  split
  case h_2 => exact .inl rfl
  rename_i a _ xs q hi
  refine .inr ⟨_, _, _, rfl, fun hn => ?_⟩
  rw [allT_append, Bool.and_eq_true] at hn
  obtain ⟨l, id, r, A, z, rfl, hg, hA, h5⟩ := floatsAt_spec hi hn.1
  exact ⟨hn.2, call_floats1 (fine_ok xs z h5) rfl rfl hg hA⟩
noncomputable def idxT : Table := fun _ args H nd K =>
  match args with
  | [a, .fn g [] []] => match Nat.beq g 270 with
    | true => match floatsAt H a with
      | some (xs, q) => K (.i false .i64 (firstN (fun i => !finI xs i) xs.length 0)) H (q ++ nd)
      | none => .fail
    | false => .fail
  | _ => .fail
theorem index_at : SoundAt Try.prog 234 idxT := fun args H nd K => by
  unfold idxT
  split
  case h_2 => exact .inl rfl
  split
  case h_2 => exact .inl rfl
  rename_i g hg0
  have := Nat.eq_of_beq_eq_true hg0
  subst this
  split
  case h_2 => exact .inl rfl
  rename_i a _ xs q hi
  refine .inr ⟨_, _, _, rfl, fun hn => ?_⟩
  rw [allT_append, Bool.and_eq_true] at hn
  obtain ⟨l, id, r, A, z, rfl, hg, hA, h5⟩ := floatsAt_spec hi hn.1
  exact ⟨hn.2, call_floats1 (index_ok xs z h5) rfl rfl hg hA⟩
noncomputable def tabIx : Table := tabOf (cdeep Try.prog [(234, idxT)] [] 200 5)
theorem tabIx_sound : SoundT Try.prog tabIx := cdeep_sound (fun p hp => by
  simp only [List.mem_cons, List.not_mem_nil, or_false] at hp
  subst hp; exact index_at) 5
theorem are_run (xs : List Nat) (z : Nat) : joinR 1 (tabIx 233 [.sl false 0 0 xs.length z] (fb xs) [] fun v H nd => .ret v H nd) = some (.b false (!leQ false 0 (firstN (fun i => !finI xs i) xs.length 0)), [decide (0 = 0), decide (xs.length = xs.length), decide (xs.length ≤ 5000)]) := by kernel_rfl
theorem are_ok (xs : List Nat) (z : Nat) (hx : xs.length ≤ 5000) : CallOK Try.prog 233 [.sl false 0 0 xs.length z] (fb xs) (.b false (finL xs)) (fb xs) := by
  have hr := quiet_sound tabIx_sound 233 [.sl false 0 0 xs.length z] (fb xs) [] fun v H nd => .ret v H nd
  have e : (quiet tabIx 233 [.sl false 0 0 xs.length z] (fb xs) [] fun v H nd => .ret v H nd) = .ret (.b false (!leQ false 0 (firstN (fun i => !finI xs i) xs.length 0))) (fb xs) ([decide (0 = 0), decide (xs.length = xs.length), decide (xs.length ≤ 5000)] ++ []) := by
    unfold quiet
    have h1 : roH (fb xs) = fb xs := rfl
    have h2 : (fb xs).length = 1 := rfl
    rw [h1, h2, are_run]
  rw [e] at hr
  rcases hr with h | ⟨v, H', nd', h1, h2⟩
  · cases h
  · cases h1
    have := (h2 (by simp [allT]; exact hx)).2
    refine this.weaken fun σ x r => ?_
    rw [leQ_eq, firstN_neg, not_not_fun] at r
    exact r
theorem are_at : SoundAt Try.prog 233 finT := fun args H nd K => by
  unfold finT
  split
  case h_2 => exact .inl rfl
  split
  case h_2 => exact .inl rfl
  rename_i a _ xs q hi
  refine .inr ⟨_, _, _, rfl, fun hn => ?_⟩
  rw [allT_append, Bool.and_eq_true] at hn
  obtain ⟨l, id, r, A, z, rfl, hg, hA, h5⟩ := floatsAt_spec hi hn.1
  exact ⟨hn.2, call_floats1 (are_ok xs z h5) rfl rfl hg hA⟩

/-! ### laws.lists9 -/
noncomputable def l9C : Code := Try.f46.body.getD .skip
noncomputable def l90 (xs ys : List Nat) (z z' : Nat) : Res := jupto Try.prog noT atLoop 100 [.code l9C] (.sl false 0 0 xs.length z :: .sl false 1 0 ys.length z' :: undefs 24) (fb2 xs ys)
noncomputable def l9L : List Item := ((l90 [] [] 0 0).at [false]).todo
noncomputable def l9R : List Item := toLp l9L
theorem l9R_eq : toLp l9R = l9R := by kernel_rfl
def l9T (xs ys : List Nat) (z z' : Nat) (i : Nat) : List AV := [.sl false 0 0 xs.length z, .sl false 1 0 ys.length z', .any, .any, .any, .i false .i64 (Int.ofNat i)] ++ List.replicate 20 .any
def l9N (xs ys : List Nat) (z z' : Nat) (i : Nat) : List AV := [.sl false 0 0 xs.length z, .sl false 1 0 ys.length z', .any, .any, .any, .i false .i64 (wrapQ false .i64 (Int.ofNat i + 1))] ++ List.replicate 20 .any
def l9M : List Bool := [false, false, true, true, true, false] ++ List.replicate 20 true
noncomputable def l9U (xs ys : List Nat) (z z' : Nat) (i : Nat) : Res := jupto Try.prog noT atLoop 100 l9R (l9T xs ys z z' i) (fb2 xs ys)
theorem l90_ok (xs ys : List Nat) (z z' : Nat) : ((condsP (l90 xs ys z z') [false], lfM l9M ((l90 xs ys z z').at [false])), (condsP (l90 xs ys z z') [true], endOf Try.prog Try.f46.results.toList ((l90 xs ys z z').at [true]))) =
    (([!!eqQ false xs.length ys.length], (true, l9L, (l9T xs ys z z' 0).map AV.bare, fb2 xs ys, [])), ([!eqQ false xs.length ys.length], some (some ([.b true false], []), fb2 xs ys, []))) := by kernel_rfl
noncomputable def l9E (xs ys : List Nat) (i : Nat) : Bool := feq .f32 (xs.getD (0 + (Int.ofNat i).toNat * 1) 0) (ys.getD (0 + (Int.ofNat i).toNat * 1) 0)
theorem l9_step (xs ys : List Nat) (z z' : Nat) (i : Nat) : ((condsP (l9U xs ys z z' i) [true, false], lfM l9M ((l9U xs ys z z' i).at [true, false])), (condsP (l9U xs ys z z' i) [false], endOf Try.prog Try.f46.results.toList ((l9U xs ys z z' i).at [false])), (condsP (l9U xs ys z z' i) [true, true], endOf Try.prog Try.f46.results.toList ((l9U xs ys z z' i).at [true, true]))) =
    (([ltQ false (Int.ofNat i) xs.length, !!l9E xs ys i], (true, l9R, (l9N xs ys z z' i).map AV.bare, fb2 xs ys, idxQ ys i ++ idxQ xs i)),
     ([!ltQ false (Int.ofNat i) xs.length], some (some ([.b true true], []), fb2 xs ys, [])),
     ([ltQ false (Int.ofNat i) xs.length, !l9E xs ys i], some (some ([.b true false], []), fb2 xs ys, idxQ ys i ++ idxQ xs i))) := by kernel_rfl
/-- Whether two lists are the same numbers. -/
noncomputable def likeF (xs ys : List Nat) : Bool := eqQ false xs.length ys.length && allN (fun i => l9E xs ys i) xs.length 0
theorem lists9_ok (xs ys : List Nat) (z z' : Nat) (hx : xs.length ≤ 5000) : CallOK Try.prog 46 [.sl false 0 0 xs.length z, .sl false 1 0 ys.length z'] (fb2 xs ys) (.b false (likeF xs ys)) (fb2 xs ys) := by
  have h0 := l90_ok xs ys z z'
  simp only [Prod.mk.injEq] at h0
  obtain ⟨⟨c1, l1⟩, c2, l2⟩ := h0
  have hb : Try.f46.body = some l9C := rfl
  unfold likeF
  cases hl : eqQ false xs.length ys.length with
  | false =>
    obtain ⟨t, e1, e2⟩ := way_ends (P := Try.prog) (T := noT) (stop := atLoop) (n := 100) (L := [.code l9C]) (R := [.code l9C]) (p := [true]) (t0 := .sl false 0 0 xs.length z :: .sl false 1 0 ys.length z' :: undefs 24) (H0 := fb2 xs ys) (noT_sound _) rfl (by
      show allT (condsP (l90 xs ys z z') [true]) = true
      rw [c2, hl]; rfl) l2 rfl
    have := call_of_ends (args := [.sl false 0 0 xs.length z, .sl false 1 0 ys.length z']) (m := []) Try.func46 hb e1 e2 rfl
    exact this.weaken fun σ x r => by cases r; exact .b _
  | true =>
    have hlen : xs.length = ys.length := by rw [eqQ_eq] at hl; have := beq_iff_eq.1 hl; omega
    have hr := way_reach (P := Try.prog) (T := noT) (stop := atLoop) (n := 100) (L := [.code l9C]) (R := [.code l9C]) (p := [false]) (t0 := .sl false 0 0 xs.length z :: .sl false 1 0 ys.length z' :: undefs 24) (H0 := fb2 xs ys) (noT_sound _) rfl (by
      show allT (condsP (l90 xs ys z z') [false]) = true
      rw [c1, hl]; rfl) l1 rfl
    have hs := fun i => l9_step xs ys z z' i
    simp only [Prod.mk.injEq] at hs
    have hq : ∀ i, i < xs.length → allT (idxQ ys i ++ idxQ xs i) = true := fun i hi => by
      rw [allT_append, idxQ_ok hi, idxQ_ok (by omega)]; rfl
    obtain ⟨t, e1, e2⟩ := scan_go (P := Try.prog) (R := l9R) (S := l9T xs ys z z') (H := fb2 xs ys) (rs := Try.f46.results.toList) (len := xs.length) (b := fun i => !l9E xs ys i) (bad := fun _ => .b true false) (good := .b true true) l9R_eq
      (fun i hi hb L hL => by
        obtain ⟨⟨c1, l1⟩, _, _⟩ := hs i
        have := way_reach (P := Try.prog) (T := noT) (stop := atLoop) (n := 100) (L := L) (R := l9R) (p := [true, false]) (t0 := l9T xs ys z z' i) (H0 := fb2 xs ys) (noT_sound _) (hL.trans l9R_eq.symm) (by
          show allT (condsP (l9U xs ys z z' i) [true, false]) = true
          rw [c1, ltQ_true hi, hb]; rfl) l1 (hq i hi)
        have hN : l9N xs ys z z' i = l9T xs ys z z' (i + 1) := by unfold l9N l9T; rw [ofNat_next (by omega)]
        rwa [hN] at this)
      (fun i hi hb L hL => by
        obtain ⟨_, _, ⟨c1, l1⟩⟩ := hs i
        exact way_ends (P := Try.prog) (T := noT) (stop := atLoop) (n := 100) (L := L) (R := l9R) (p := [true, true]) (t0 := l9T xs ys z z' i) (H0 := fb2 xs ys) (noT_sound _) (hL.trans l9R_eq.symm) (by
          show allT (condsP (l9U xs ys z z' i) [true, true]) = true
          rw [c1, ltQ_true hi, hb]; rfl) l1 (hq i hi))
      (fun L hL => by
        obtain ⟨_, ⟨c1, l1⟩, _⟩ := hs xs.length
        exact way_ends (P := Try.prog) (T := noT) (stop := atLoop) (n := 100) (L := L) (R := l9R) (p := [false]) (t0 := l9T xs ys z z' xs.length) (H0 := fb2 xs ys) (noT_sound _) (hL.trans l9R_eq.symm) (by
          show allT (condsP (l9U xs ys z z' xs.length) [false]) = true
          rw [c1, ltQ_same]; rfl) l1 rfl)
      xs.length 0 (by omega) l9L rfl
    have := call_of_ends (args := [.sl false 0 0 xs.length z, .sl false 1 0 ys.length z']) (m := []) Try.func46 hb (hr.ends e1) e2 rfl
    refine this.weaken fun σ x r => ?_
    have := scanV_bool _ _ _ r
    have e : (fun j => !!l9E xs ys j) = fun i => l9E xs ys i := funext fun _ => Bool.not_not _
    rw [e] at this
    rw [Bool.true_and]
    exact this
theorem call_floats2 {P : Program} {f : FuncId} {xs ys : List Nat} {v : AV} {z z' : Nat} (h : CallOK P f [.sl false 0 0 xs.length z, .sl false 1 0 ys.length z'] (fb2 xs ys) v (fb2 xs ys)) (hv : below 0 v = true) {H : List AB} {id id' : Nat} {r r' l l' : Bool} {A A' : Cells}
    (hg : getB H id = .cells r A) (hA : f32Of A = some xs) (hg' : getB H id' = .cells r' A') (hA' : f32Of A' = some ys) : CallOK P f [.sl l id 0 xs.length z, .sl l' id' 0 ys.length z'] H v H := by
  have k := h.pick (fun i => by match i with
    | 0 => rfl
    | 1 => rfl
    | i + 2 => rfl) rfl [id, id'] rfl H (fun i hi => by
      match i, hi with
      | 0, _ =>
        refine ⟨getB_lt hg, fun σ τ z o hb => ?_⟩
        have e : ([id, id'] : List Nat).getD 0 0 = id := rfl
        rw [e, hg] at hb
        exact ro_floats hA hb
      | 1, _ =>
        refine ⟨getB_lt hg', fun σ τ z o hb => ?_⟩
        have e : ([id, id'] : List Nat).getD 1 0 = id' := rfl
        rw [e, hg'] at hb
        exact ro_floats hA' hb
      | i + 2, hi => simp only [fb2, List.length_cons, List.length_nil] at hi; omega)
  have e1 : (H ++ ((fb2 xs ys).drop (fb2 xs ys).length).map (mapB (pickI (fb2 xs ys).length H.length [id, id']))) = H := by simp [fb2]
  rw [e1, mapV_low _ hv] at k
  exact k.bare rfl
noncomputable def l9Tb : Table := fun _ args H nd K =>
  match args with
  | [a, b] => match floatsAt H a, floatsAt H b with
    | some (xs, q), some (ys, q') => K (.b false (likeF xs ys)) H (q ++ (q' ++ nd))
    | _, _ => .fail
  | _ => .fail
theorem lists9_at : SoundAt Try.prog 46 l9Tb := fun args H nd K => by
  unfold l9Tb
  split
  case h_2 => exact .inl rfl
  split
  · rename_i a b xs q ys q' hi hj
    refine .inr ⟨_, _, _, rfl, fun hn => ?_⟩
    rw [allT_append, allT_append, Bool.and_eq_true, Bool.and_eq_true] at hn
    obtain ⟨l, id, r, A, z, rfl, hg, hA, h5⟩ := floatsAt_spec hi hn.1
    obtain ⟨l', id', r', A', z', rfl, hg', hA', _⟩ := floatsAt_spec hj hn.2.1
    exact ⟨hn.2.2, call_floats2 (lists9_ok xs ys z z' h5) rfl hg hA hg' hA'⟩
  · exact .inl rfl
end Go.Ax

/- Calls that come back with a list or none: one answer for both. -/
namespace Go.Ax
open Go Go.Proofs

section
variable {P : Program} {f : FuncId} {args : List AV}
/-- A call that finds nothing to write leaves memory as it was. -/
theorem CallOK.same {H0 H1 : List AB} {v : AV} (h : CallOK P f args H0 v H1) (hro : ∀ i, (getB H0 i).rw = false) (hv : below 0 v = true) : CallOK P f args H0 v H0 := fun σ w rargs s hra => by
  refine (h σ w rargs s hra).mono ?_
  rintro e w' ⟨rv, rfl, σ1, r1, s1, F⟩
  have hold : ∀ b, b < w.heap.size → w'.heap[b]? = w.heap[b]? := fun b hb => F.old b hb fun i z hr => by rw [hro] at hr; cases hr
  refine ⟨rv, rfl, σ, below_free hv r1, ⟨s.len, fun i b z hbz => ?_, s.inj⟩, ⟨F.os, F.tape, F.output, F.size, fun b hb _ => hold b hb, Ext.refl σ, fun i b z h h' => (by rw [h'] at h; cases h), fun _ _ h => h⟩⟩
  have hbl := s.blk i b z hbz
  cases hg : getB H0 i with
  | dead => trivial
  | cells r A => rw [hold b (s.lt hbz (by rw [hg]; rfl)), ← hg]; exact hbl
  | code o xs => rw [hold b (s.lt hbz (by rw [hg]; rfl)), ← hg]; exact hbl
/-- Of what a call made only its list is kept. -/
theorem CallOK.keep1 {H0 H1 : List AB} {c : AV} {l r : Bool} {id off len z : Nat} {ys : List Nat} (h : CallOK P f args H0 (.tup [.sl l id off len z, c]) H1) (hro : ∀ i, (getB H0 i).rw = false) (hc : below 0 c = true) (hid : H0.length ≤ id) (hB : getB H1 id = .cells r (.f32 ys)) :
    CallOK P f args H0 (.tup [.sl l H0.length off len z, c]) (H0 ++ [.cells false (.f32 ys)]) := fun σ w rargs s hra => by
  refine (h σ w rargs s hra).mono ?_
  rintro e w' ⟨rv, rfl, σ1, r1, s1, F⟩
  have hold : ∀ b, b < w.heap.size → w'.heap[b]? = w.heap[b]? := fun b hb => F.old b hb fun i z hr => by rw [hro] at hr; cases hr
  have hlt : id < σ1.length := by rw [s1.len]; exact getB_lt hB
  obtain ⟨b0, z0, hb0⟩ : ∃ b0 z0, σ1[id]? = some (b0, z0) := ⟨(σ1[id]).1, (σ1[id]).2, by rw [List.getElem?_eq_getElem hlt]⟩
  have hnew : σ[id]? = none := List.getElem?_eq_none (by rw [s.len]; exact hid)
  have hge : w.heap.size ≤ b0 := by
    rcases F.new id b0 z0 hb0 hnew with h' | ⟨j, z', hj, _⟩
    · exact h'
    · rw [hro] at hj; cases hj
  have gl : ∀ i, i < H0.length → getB (H0 ++ [.cells false (.f32 ys)]) i = getB H0 i := fun i hi => getB_append_left hi
  have hrw : ∀ i, (getB (H0 ++ [.cells false (.f32 ys)]) i).rw = false := fun i => by
    rcases Nat.lt_or_ge i H0.length with hi | hi
    · rw [gl i hi]; exact hro i
    · rw [getB_append_right hi]
      match i - H0.length with
      | 0 => rfl
      | k + 1 => rfl
  have hσl := s.len
  refine ⟨rv, rfl, σ ++ [(b0, z0)], ?_, ⟨by simp [s.len], fun i b z hbz => ?_, fun i j b z z' _ _ hr _ => by rw [hrw] at hr; cases hr⟩, ⟨F.os, F.tape, F.output, F.size, fun b hb _ => hold b hb, Ext.append _ _, fun i b z hbz hn => ?_, fun i hi hr => by rw [hrw] at hr; cases hr⟩⟩
  · cases r1 with | tup hr =>
    generalize hal : Array.toList _ = al at hr
    cases hr with | cons r1 hr => cases hr with | cons r2 hr => cases hr with | nil =>
    refine .tup ?_
    rw [hal]
    refine .cons ?_ (.cons (below_free hc r2) .nil)
    cases r1 with
    | sl h1 h2 h3 =>
      rw [hb0] at h1
      cases h1
      refine .sl ?_ h2 h3
      rw [List.getElem?_append_right (by omega), hσl, Nat.sub_self]; rfl
    | slz => exact .slz
  · rcases snoc_cases hbz with ⟨hi, hb'⟩ | ⟨rfl, hb'⟩
    · rw [gl i (by omega)]
      have hbl := (s.blk i b z hb').mono (Ext.append σ [(b0, z0)])
      cases hg : getB H0 i with
      | dead => trivial
      | cells r A => rw [hold b (s.lt hb' (by rw [hg]; rfl)), ← hg]; exact hbl
      | code o xs => rw [hold b (s.lt hb' (by rw [hg]; rfl)), ← hg]; exact hbl
    · cases hb'
      rw [getB_append_right (by omega), hσl, Nat.sub_self]
      have := s1.blk id _ _ hb0
      rw [hB] at this
      exact ro_f32 this
  · rcases snoc_cases hbz with ⟨hi, hb'⟩ | ⟨rfl, hb'⟩
    · rw [hn] at hb'; cases hb'
    · cases hb'; exact .inl hge
/-- Of what a call made that comes back without a list, some block is kept. -/
theorem CallOK.keep0 {H0 H1 : List AB} {c : AV} {r : Bool} {id : Nat} {A : Cells} (h : CallOK P f args H0 (.tup [.slnil, c]) H1) (hro : ∀ i, (getB H0 i).rw = false) (hc : below 0 c = true) (hid : H0.length ≤ id) (hB : getB H1 id = .cells r A) :
    CallOK P f args H0 (.tup [.sl false H0.length 0 0 0, c]) (H0 ++ [.cells false (.f32 [])]) := fun σ w rargs s hra => by
  refine (h σ w rargs s hra).mono ?_
  rintro e w' ⟨rv, rfl, σ1, r1, s1, F⟩
  have hold : ∀ b, b < w.heap.size → w'.heap[b]? = w.heap[b]? := fun b hb => F.old b hb fun i z hr => by rw [hro] at hr; cases hr
  have hlt : id < σ1.length := by rw [s1.len]; exact getB_lt hB
  obtain ⟨b0, z0, hb0⟩ : ∃ b0 z0, σ1[id]? = some (b0, z0) := ⟨(σ1[id]).1, (σ1[id]).2, by rw [List.getElem?_eq_getElem hlt]⟩
  have hnew : σ[id]? = none := List.getElem?_eq_none (by rw [s.len]; exact hid)
  have hge : w.heap.size ≤ b0 := by
    rcases F.new id b0 z0 hb0 hnew with h' | ⟨j, z', hj, _⟩
    · exact h'
    · rw [hro] at hj; cases hj
  have gl : ∀ i, i < H0.length → getB (H0 ++ [.cells false (.f32 [])]) i = getB H0 i := fun i hi => getB_append_left hi
  have hrw : ∀ i, (getB (H0 ++ [.cells false (.f32 [])]) i).rw = false := fun i => by
    rcases Nat.lt_or_ge i H0.length with hi | hi
    · rw [gl i hi]; exact hro i
    · rw [getB_append_right hi]
      match i - H0.length with
      | 0 => rfl
      | k + 1 => rfl
  have hσl := s.len
  refine ⟨rv, rfl, σ ++ [(b0, z0)], ?_, ⟨by simp [s.len], fun i b z hbz => ?_, fun i j b z z' _ _ hr _ => by rw [hrw] at hr; cases hr⟩, ⟨F.os, F.tape, F.output, F.size, fun b hb _ => hold b hb, Ext.append _ _, fun i b z hbz hn => ?_, fun i hi hr => by rw [hrw] at hr; cases hr⟩⟩
  · cases r1 with | tup hr =>
    generalize hal : Array.toList _ = al at hr
    cases hr with | cons r1 hr => cases hr with | cons r2 hr => cases hr with | nil =>
    refine .tup ?_
    rw [hal]
    cases r1
    exact .cons .slz (.cons (below_free hc r2) .nil)
  · rcases snoc_cases hbz with ⟨hi, hb'⟩ | ⟨rfl, hb'⟩
    · rw [gl i (by omega)]
      have hbl := (s.blk i b z hb').mono (Ext.append σ [(b0, z0)])
      cases hg : getB H0 i with
      | dead => trivial
      | cells r A => rw [hold b (s.lt hb' (by rw [hg]; rfl)), ← hg]; exact hbl
      | code o xs => rw [hold b (s.lt hb' (by rw [hg]; rfl)), ← hg]; exact hbl
    · cases hb'
      rw [getB_append_right (by omega), hσl, Nat.sub_self]
      have := s1.blk id _ _ hb0
      rw [hB] at this
      obtain ⟨c, e, fr, h1, _, h3, _⟩ := this
      exact ⟨c, e, fr, h1, fun j a ha => by simp [Cells.toL] at ha, h3, fun h => by cases h⟩
  · rcases snoc_cases hbz with ⟨hi, hb'⟩ | ⟨rfl, hb'⟩
    · rw [hn] at hb'; cases hb'
    · cases hb'; exact .inl hge
end

theorem sl_z1 {σ : List (Nat × Nat)} {l : Bool} {id n z : Nat} {v : Value} (r : Rel σ (.sl l id 0 n z) v) (hz : 0 < z) : Rel σ (.sl false id 0 n 1) v := by
  rcases sl_cases r with ⟨_, h, _⟩ | ⟨b, c, cap, h1, h2, h3, rfl⟩
  · omega
  · refine .sl h1 h2 (Nat.le_trans ?_ h3)
    have : cap * 1 ≤ cap * z := Nat.mul_le_mul_left _ hz
    omega
theorem sl_z0 {σ : List (Nat × Nat)} {l : Bool} {id z : Nat} {v : Value} (r : Rel σ (.sl l id 0 0 z) v) : Rel σ (.sl false id 0 0 0) v := by
  rcases sl_cases r with ⟨_, h, a, _, rfl⟩ | ⟨b, c, cap, h1, h2, h3, rfl⟩
  · exact .slz
  · exact .sl h1 h2 (by omega)
/-! ### One answer -/
/-- A list or none, and a number. -/
def uniV (k : Nat) (ok : Bool) (n : Nat) (c : Int) : AV := .tup [.sl false k 0 (cond ok n 0) (cond ok 1 0), .i false .i64 c]
def uniB (ok : Bool) (ys : List Nat) : AB := .cells false (.f32 (cond ok ys []))
section
variable {P : Program} {f : FuncId} {args : List AV}
theorem uni_good {H0 H1 : List AB} {l l' r : Bool} {id z : Nat} {ys : List Nat} {c : Int} (h : CallOK P f args H0 (.tup [.sl l id 0 ys.length z, .i l' .i64 c]) H1) (hro : ∀ i, (getB H0 i).rw = false) (hid : H0.length ≤ id) (hz : 0 < z) (hB : getB H1 id = .cells r (.f32 ys)) :
    CallOK P f args H0 (uniV H0.length true ys.length c) (H0 ++ [uniB true ys]) := by
  refine (h.keep1 hro rfl hid hB).weaken fun σ x r => ?_
  cases r with | tup hr =>
  generalize hal : Array.toList _ = al at hr
  cases hr with | cons r1 hr => cases hr with | cons r2 hr => cases hr with | nil =>
  refine .tup ?_
  rw [hal]
  refine .cons ?_ (.cons (by cases r2; exact .i _ _) .nil)
  exact sl_z1 r1 hz
theorem uni_bad {H0 H1 : List AB} {l' r : Bool} {id : Nat} {A : Cells} {n : Nat} {ys : List Nat} {c : Int} (h : CallOK P f args H0 (.tup [.slnil, .i l' .i64 c]) H1) (hro : ∀ i, (getB H0 i).rw = false) (hid : H0.length ≤ id) (hB : getB H1 id = .cells r A) :
    CallOK P f args H0 (uniV H0.length false n c) (H0 ++ [uniB false ys]) := by
  refine (h.keep0 hro rfl hid hB).weaken fun σ x r => ?_
  cases r with | tup hr =>
  generalize hal : Array.toList _ = al at hr
  cases hr with | cons r1 hr => cases hr with | cons r2 hr => cases hr with | nil =>
  refine .tup ?_
  rw [hal]
  exact .cons r1 (.cons (by cases r2; exact .i _ _) .nil)
/-- An empty list is as good as none. -/
theorem uni_empty {H0 H1 : List AB} {l l' r : Bool} {id z : Nat} {n : Nat} {ys : List Nat} {c : Int} (h : CallOK P f args H0 (.tup [.sl l id 0 0 z, .i l' .i64 c]) H1) (hro : ∀ i, (getB H0 i).rw = false) (hid : H0.length ≤ id) (hB : getB H1 id = .cells r (.f32 [])) :
    CallOK P f args H0 (uniV H0.length false n c) (H0 ++ [uniB false ys]) := by
  refine (h.keep1 hro rfl hid hB).weaken fun σ x r => ?_
  cases r with | tup hr =>
  generalize hal : Array.toList _ = al at hr
  cases hr with | cons r1 hr => cases hr with | cons r2 hr => cases hr with | nil =>
  refine .tup ?_
  rw [hal]
  refine .cons ?_ (.cons (by cases r2; exact .i _ _) .nil)
  exact sl_z0 r1
/-- In whatever memory. -/
theorem uni_at {H0 H : List AB} {ok : Bool} {n : Nat} {ys : List Nat} {c : Int} {ids : List Nat} (h : CallOK P f args H0 (uniV H0.length ok n c) (H0 ++ [uniB ok ys])) (hro : ∀ i, (getB H0 i).rw = false) (ha : args.all (plainV H0.length) = true) (hid : ids.length = H0.length)
    (hb : ∀ i, i < H0.length → ids.getD i 0 < H.length ∧ ∀ (σ τ : List (Nat × Nat)) (z : Nat) (o : Option Obj), BlkRel σ z (getB H (ids.getD i 0)) o → BlkRel τ z (getB H0 i) o) :
    CallOK P f (mapL (pickI H0.length H.length ids) args) H (uniV H.length ok n c) (H ++ [uniB ok ys]) := by
  have k := h.pick hro ha ids hid H hb
  have e1 : ((H0 ++ [uniB ok ys]).drop H0.length).map (mapB (pickI H0.length H.length ids)) = [uniB ok ys] := by
    rw [List.drop_left]; rfl
  have e2 : mapV (pickI H0.length H.length ids) (uniV H0.length ok n c) = uniV H.length ok n c := by
    simp [uniV, mapV, mapL, pickI]
  rw [e1, e2] at k
  exact k
end
end Go.Ax

/- Codes of Legendre: what shadows and decoded shadows come to, of impl. -/
namespace Go.Ax
open Go Go.Proofs

noncomputable def rowsA : List (FuncId × Table) := [(233, finT), (150, finT)]
theorem rowsA_at : ∀ p ∈ rowsA, SoundAt Try.prog p.1 p.2 := fun p hp => by
  simp only [rowsA, List.mem_cons, List.not_mem_nil, or_false] at hp
  rcases hp with rfl | rfl
  · exact are_at
  · exact fine_at
def inlA : List FuncId := [44, 131, 224, 45, 133, 142, 48, 136, 49, 137, 51, 138, 52, 139, 54, 140, 148, 55, 141, 152, 228, 227, 132, 188, 134, 143, 144, 230]
noncomputable def tabA : Table := tabOf (jdeep Try.prog rowsA inlA 40000 10)
theorem tabA_sound : SoundT Try.prog tabA := jdeep_sound rowsA_at 10
def cellsL (n : Nat) (x : Nat → Nat) : List AB := [.cells false (.lit ((List.range n).map fun j => .f false .f32 (x j)))]
/-- The list of an answer, its number, and whether all that is to be shown holds. -/
def outR : Res → Option (List Nat × AV × Bool)
  | .ret v H nd => match v with
    | .tup [s, c] => match s with
      | .sl _ id off len z => match Nat.beq off 0 && (Nat.blt 0 z && Nat.blt 0 id) with
        | true => match getB H id with
          | .cells _ A => match f32Of A with
            | some xs => match Nat.beq xs.length len with
              | true => some (xs, c, allT nd)
              | false => none
            | none => none
          | _ => none
        | false => none
      | _ => none
    | _ => none
  | _ => none
/-- No list, or an empty one, and a number. -/
def badR (c : Nat) : Res → Bool
  | .ret v H nd => match v with
    | .tup [s, k] => match k with
      | .i _ .i64 n => eqL n (Int.ofNat c) && (allT nd && match s with
        | .slnil => match getB H 1 with
          | .cells _ _ => true
          | _ => false
        | .sl _ id off len _ => Nat.beq off 0 && (Nat.beq len 0 && (Nat.blt 0 id && match getB H id with
          | .cells _ (.f32 []) => true
          | _ => false))
        | _ => false)
      | _ => false
    | _ => false
  | _ => false
/-- All ways off a chain are bad ones. -/
def offB (c : Nat) : Nat → Res → Bool
  | 0, _ => true
  | n + 1, .ite _ x y => badR c x && offB c n y
  | _ + 1, _ => false
def legB (p i : Nat) : Bool := (List.range p).any fun x => Nat.beq (x * x % p) i
def codeF (p i : Nat) : Nat := cond (legB p i) 1065353216 3212836864
def mskF (p i : Nat) : Nat := cond (legB p i) 1065353216 0
def accF (t : Nat → Nat) : Nat → Nat
  | 0 => 0
  | m + 1 => fadd .f32 (accF t m) (t m)
def shadS (p : Nat) (x : Nat → Nat) (k : Nat) : Nat := accF (fun j => fmul .f32 (x j) (mskF p ((k + p - j) % p))) p
noncomputable def rA (f : FuncId) (n : Nat) (x : Nat → Nat) : Res := tabA f [.sl true 0 0 n 1] (cellsL n x) [] fun v H nd => .ret v H nd
end Go.Ax

/- Shadows, decoded shadows, correlations: what is to be evaluated. -/
namespace Go.Ax
open Go Go.Proofs

def xL (n : Nat) (x : Nat → Nat) : List Nat := (List.range n).map x
/-- Sums of terms, and what is made of them. -/
def sumL (n : Nat) (T : Nat → Nat → Nat) (D : Nat → Nat) : List Nat := (List.range n).map fun k => D (accF (T k) n)
def plusL (n : Nat) (T : Nat → Nat → Nat) (D : Nat → Nat) : List Nat := (List.range n).map fun k => plusF (D (accF (T k) n))
noncomputable def testL (n : Nat) (T : Nat → Nat → Nat) : List Bool := (List.range (n * n)).map fun i => !!finB (accF (T (i / n)) (Nat.succ (i % n)))
def shT (p : Nat) (x : Nat → Nat) (k j : Nat) : Nat := fmul .f32 (x j) (mskF p ((k + p - j) % p))
def deT (p : Nat) (x : Nat → Nat) (k j : Nat) : Nat := fmul .f32 (x j) (codeF p ((j + p - k) % p))
def deD (p : Nat) (s : Nat) : Nat := fdiv .f32 s (FloatKind.f32.nearest (Int.ofNat ((p + 1) / 2)))
def idD (s : Nat) : Nat := s
def primes : List Nat := [3, 7, 11, 19, 23, 31]
def ShadRun (p : Nat) : Prop := ∀ x, (condsP (rA 48 p x) [false, false], outR ((rA 48 p x).at [false, false]), badR 3 ((rA 48 p x).at [false, true])) =
    ([!!finL (xL p x), !!finL (sumL p (shT p x) idD)], some (plusL p (shT p x) idD, .i true .i64 0, true), true)
def SShadRun (p : Nat) : Prop := ∀ x, (condsP (rA 49 p x) (List.replicate (p * p + 1) false), outR ((rA 49 p x).at (List.replicate (p * p + 1) false)), offB 3 (p * p) ((rA 49 p x).at [false])) =
    ((!!finL (xL p x)) :: testL p (shT p x), some (plusL p (shT p x) idD, .i true .i64 0, true), true)
def DecRun (p : Nat) : Prop := ∀ x, (condsP (rA 51 p x) [false, false], outR ((rA 51 p x).at [false, false]), badR 3 ((rA 51 p x).at [false, true])) =
    ([!!finL (xL p x), !!finL (sumL p (deT p x) (deD p))], some (plusL p (deT p x) (deD p), .i true .i64 0, true), true)
def SDecRun (p : Nat) : Prop := ∀ x, (condsP (rA 52 p x) (List.replicate (p * p + 1) false), outR ((rA 52 p x).at (List.replicate (p * p + 1) false)), offB 3 (p * p) ((rA 52 p x).at [false])) =
    ((!!finL (xL p x)) :: testL p (deT p x), some (plusL p (deT p x) (deD p), .i true .i64 0, true), true)
end Go.Ax

/- Correlations: what is to be evaluated. -/
namespace Go.Ax
open Go Go.Proofs

/-- The list of an answer beyond the first k0 blocks, its number, and whether all that is to be shown holds. -/
def outK (k0 : Nat) : Res → Option (List Nat × AV × Bool)
  | .ret v H nd => match v with
    | .tup [s, c] => match s with
      | .sl _ id off len z => match Nat.beq off 0 && (Nat.blt 0 z && Nat.ble k0 id) with
        | true => match getB H id with
          | .cells _ A => match f32Of A with
            | some xs => match Nat.beq xs.length len with
              | true => some (xs, c, allT nd)
              | false => none
            | none => none
          | _ => none
        | false => none
      | _ => none
    | _ => none
  | _ => none
def badK (k0 : Nat) (c : Nat) : Res → Bool
  | .ret v H nd => match v with
    | .tup [s, k] => match k with
      | .i _ .i64 n => eqL n (Int.ofNat c) && (allT nd && match s with
        | .slnil => match getB H k0 with
          | .cells _ _ => true
          | _ => false
        | .sl _ id off len _ => Nat.beq off 0 && (Nat.beq len 0 && (Nat.ble k0 id && match getB H id with
          | .cells _ (.f32 []) => true
          | _ => false))
        | _ => false)
      | _ => false
    | _ => false
  | _ => false
def offK (k0 : Nat) (c : Nat) : Nat → Res → Bool
  | 0, _ => true
  | n + 1, .ite _ x y => badK k0 c x && offK k0 c n y
  | _ + 1, _ => false
def coT (n : Nat) (x y : Nat → Nat) (k j : Nat) : Nat := fmul .f32 (x j) (y ((j + k) % n))
noncomputable def rB (f : FuncId) (n m : Nat) (x y : Nat → Nat) : Res := tabA f [.sl true 0 0 n 1, .sl true 1 0 m 1] (cellsL n x ++ cellsL m y) [] fun v H nd => .ret v H nd
def CorRun (n : Nat) : Prop := ∀ x y, (condsP (rB 54 n n x y) [false, false, false], outK 2 ((rB 54 n n x y).at [false, false, false]), badK 2 3 ((rB 54 n n x y).at [false, false, true]), condsP (rB 54 n n x y) [true, true], badK 2 1 ((rB 54 n n x y).at [true, true]), badK 2 1 ((rB 54 n n x y).at [true, false]), badK 2 1 ((rB 54 n n x y).at [false, true])) =
    ([!!finL (xL n x), !!finL (xL n y), !!finL (sumL n (coT n x y) idD)], some (plusL n (coT n x y) idD, .i true .i64 0, true), true, [!finL (xL n x), !finL (xL n y)], true, true, true)
def SCorRun (n : Nat) : Prop := ∀ x y, (condsP (rB 55 n n x y) (List.replicate (n * n + 1) false), outK 2 ((rB 55 n n x y).at (List.replicate (n * n + 1) false)), offK 2 3 (n * n) ((rB 55 n n x y).at [false]), badK 2 1 ((rB 55 n n x y).at [true])) =
    ((!cond (!finL (xL n x)) true (!finL (xL n y))) :: testL n (coT n x y), some (plusL n (coT n x y) idD, .i true .i64 0, true), true, true)
def CorOff (n m : Nat) : Prop := ∀ x y, (condsP (rB 54 n m x y) [false, false], badK 2 2 ((rB 54 n m x y).at [false, false]), badK 2 1 ((rB 54 n m x y).at [true, true]), badK 2 1 ((rB 54 n m x y).at [true, false]), badK 2 1 ((rB 54 n m x y).at [false, true])) =
    ([!!finL (xL n x), !!finL (xL m y)], true, true, true, true)
def SCorOff (n m : Nat) : Prop := ∀ x y, (condsP (rB 55 n m x y) [false], badK 2 2 ((rB 55 n m x y).at [false]), badK 2 1 ((rB 55 n m x y).at [true])) =
    ([!cond (!finL (xL n x)) true (!finL (xL m y))], true, true)
end Go.Ax
