/- Correlations, codes of Legendre: contracts and rows. -/
import Derived.Test.YtdcjjibekhcplaaCap
namespace Go.Ax
open Go Go.Proofs

def nsC : List Nat := [1, 2, 3, 4, 5, 6, 7, 8, 9, 10, 11, 12, 13, 14, 15, 16, 17, 18, 19, 20, 23, 31]
def nsO : List Nat := [1, 2, 3, 4, 5, 6, 7, 8, 9, 10, 11, 12, 13, 14, 15, 16, 17, 18, 19, 20]
theorem cor_all : ∀ n ∈ nsC, CorRun n := fun n hn => by
  simp only [nsC, List.mem_cons, List.not_mem_nil, or_false] at hn
  rcases hn with rfl | rfl | rfl | rfl | rfl | rfl | rfl | rfl | rfl | rfl | rfl | rfl | rfl | rfl | rfl | rfl | rfl | rfl | rfl | rfl | rfl | rfl
  · exact cor1
  · exact cor2
  · exact cor3
  · exact cor4
  · exact cor5
  · exact cor6
  · exact cor7
  · exact cor8
  · exact cor9
  · exact cor10
  · exact cor11
  · exact cor12
  · exact cor13
  · exact cor14
  · exact cor15
  · exact cor16
  · exact cor17
  · exact cor18
  · exact cor19
  · exact cor20
  · exact cor23
  · exact cor31
theorem scor_all : ∀ n ∈ nsC, SCorRun n := fun n hn => by
  simp only [nsC, List.mem_cons, List.not_mem_nil, or_false] at hn
  rcases hn with rfl | rfl | rfl | rfl | rfl | rfl | rfl | rfl | rfl | rfl | rfl | rfl | rfl | rfl | rfl | rfl | rfl | rfl | rfl | rfl | rfl | rfl
  · exact scor1
  · exact scor2
  · exact scor3
  · exact scor4
  · exact scor5
  · exact scor6
  · exact scor7
  · exact scor8
  · exact scor9
  · exact scor10
  · exact scor11
  · exact scor12
  · exact scor13
  · exact scor14
  · exact scor15
  · exact scor16
  · exact scor17
  · exact scor18
  · exact scor19
  · exact scor20
  · exact scor23
  · exact scor31
theorem off_all : ∀ n ∈ nsO, CorOff n (n + 1) := fun n hn => by
  simp only [nsO, List.mem_cons, List.not_mem_nil, or_false] at hn
  rcases hn with rfl | rfl | rfl | rfl | rfl | rfl | rfl | rfl | rfl | rfl | rfl | rfl | rfl | rfl | rfl | rfl | rfl | rfl | rfl | rfl
  · exact off1
  · exact off2
  · exact off3
  · exact off4
  · exact off5
  · exact off6
  · exact off7
  · exact off8
  · exact off9
  · exact off10
  · exact off11
  · exact off12
  · exact off13
  · exact off14
  · exact off15
  · exact off16
  · exact off17
  · exact off18
  · exact off19
  · exact off20
theorem soff_all : ∀ n ∈ nsO, SCorOff n (n + 1) := fun n hn => by
  simp only [nsO, List.mem_cons, List.not_mem_nil, or_false] at hn
  rcases hn with rfl | rfl | rfl | rfl | rfl | rfl | rfl | rfl | rfl | rfl | rfl | rfl | rfl | rfl | rfl | rfl | rfl | rfl | rfl | rfl
  · exact soff1
  · exact soff2
  · exact soff3
  · exact soff4
  · exact soff5
  · exact soff6
  · exact soff7
  · exact soff8
  · exact soff9
  · exact soff10
  · exact soff11
  · exact soff12
  · exact soff13
  · exact soff14
  · exact soff15
  · exact soff16
  · exact soff17
  · exact soff18
  · exact soff19
  · exact soff20
/-- Two ways, both of them bad. -/
theorem two_bad {k c : Nat} {r : Res} {y : Res} (h1 : badK k c (r.at [true]) = true) (h2 : badK k c (r.at [false]) = true) : ∃ z, badK k c z = true ∧ (Res.ite true r y).sel = z.sel := by
  cases r with
  | ite b' u v =>
    cases b' with
    | true =>
      refine ⟨u, ?_, rfl⟩
      have : (Res.ite true u v).at [true] = u := by cases u <;> rfl
      rw [this] at h1; exact h1
    | false =>
      refine ⟨v, ?_, rfl⟩
      have : (Res.ite false u v).at [false] = v := by cases v <;> rfl
      rw [this] at h2; exact h2
  | ret v H nd => exact ⟨.ret v H nd, h1, rfl⟩
  | stop a b c d => exact ⟨.stop a b c d, h1, rfl⟩
  | fail => exact ⟨.fail, h1, rfl⟩
def cells2 (n m : Nat) (x y : Nat → Nat) : List AB := cellsL n x ++ cellsL m y
theorem cells2_ro (n m : Nat) (x y : Nat → Nat) : ∀ i, (getB (cells2 n m x y) i).rw = false := fun i => by
  match i with
  | 0 => rfl
  | 1 => rfl
  | i + 2 => rfl
/-- What is known of a correlation. -/
structure TwoRun (f : FuncId) : Prop where
  bad1 : ∀ n m, (n = m ∧ n ∈ nsC) ∨ (m = n + 1 ∧ n ∈ nsO) → ∀ x y, (finL (xL n x) && finL (xL m y)) = false → ∀ k ys, CallOK Try.prog f [.sl true 0 0 n 1, .sl true 1 0 m 1] (cells2 n m x y) (uniV 2 false k 1) (cells2 n m x y ++ [uniB false ys])
  bad2 : ∀ n, n ∈ nsO → ∀ x y, finL (xL n x) = true → finL (xL (n + 1) y) = true → ∀ k ys, CallOK Try.prog f [.sl true 0 0 n 1, .sl true 1 0 (n + 1) 1] (cells2 n (n + 1) x y) (uniV 2 false k 2) (cells2 n (n + 1) x y ++ [uniB false ys])
  bad3 : ∀ n, n ∈ nsC → ∀ x y, finL (xL n x) = true → finL (xL n y) = true → finL (sumL n (coT n x y) idD) = false → ∀ k ys, CallOK Try.prog f [.sl true 0 0 n 1, .sl true 1 0 n 1] (cells2 n n x y) (uniV 2 false k 3) (cells2 n n x y ++ [uniB false ys])
  good : ∀ n, n ∈ nsC → ∀ x y, finL (xL n x) = true → finL (xL n y) = true → finL (sumL n (coT n x y) idD) = true → CallOK Try.prog f [.sl true 0 0 n 1, .sl true 1 0 n 1] (cells2 n n x y) (uniV 2 true (plusL n (coT n x y) idD).length 0) (cells2 n n x y ++ [uniB true (plusL n (coT n x y) idD)])
theorem conds_ite {r : Res} {d : Bool} {ds : List Bool} {u : Bool} {us : List Bool} (h : condsP r (d :: ds) = u :: us) : ∃ b x y, r = .ite b x y ∧ u = (if d then b else !b) ∧ condsP (if d then x else y) ds = us := by
  cases r with
  | ite b x y =>
    cases d <;> simp only [condsP, List.cons.injEq] at h <;> exact ⟨b, x, y, rfl, by simp [h.1], by simpa using h.2⟩
  | _ => cases h
theorem cor_two : TwoRun 54 where
  bad1 := fun n m hnm x y hf k ys => by
    have key : ∀ us, condsP (rB 54 n m x y) [false, false] = [!!finL (xL n x), !!finL (xL m y)] ++ us → badK 2 1 ((rB 54 n m x y).at [true, true]) = true → badK 2 1 ((rB 54 n m x y).at [true, false]) = true → badK 2 1 ((rB 54 n m x y).at [false, true]) = true →
        CallOK Try.prog 54 [.sl true 0 0 n 1, .sl true 1 0 m 1] (cells2 n m x y) (uniV 2 false k 1) (cells2 n m x y ++ [uniB false ys]) := fun us hc b1 b2 b3 => by
      obtain ⟨b, u, v, hr, hb, hc2⟩ := conds_ite hc
      simp only [Bool.false_eq_true, if_false] at hb hc2
      rw [hr] at b1 b2 b3
      have hsel : ∃ z, badK 2 1 z = true ∧ (rB 54 n m x y).sel = z.sel := by
        rw [hr]
        cases hx : finL (xL n x) with
        | false =>
          rw [hx] at hb
          have : b = true := by simpa using hb.symm
          subst this
          exact two_bad b1 b2
        | true =>
          rw [hx] at hb hf
          have : b = false := by simpa using hb.symm
          subst this
          obtain ⟨b', u', v', hr', hb', _⟩ := conds_ite hc2
          simp only [Bool.false_eq_true, if_false] at hb'
          rw [Bool.true_and] at hf
          rw [hf] at hb'
          have : b' = true := by simpa using hb'.symm
          subst this
          subst hr'
          refine ⟨u', ?_, rfl⟩
          have e : (Res.ite false u (Res.ite true u' v')).at [false, true] = u' := by cases u' <;> rfl
          rw [e] at b3; exact b3
      obtain ⟨z, h1, h2⟩ := hsel
      exact bad_call (H0 := cells2 n m x y) (c := 1) tabA_sound h2 h1 (cells2_ro n m x y) k ys
    rcases hnm with ⟨rfl, hn⟩ | ⟨rfl, hn⟩
    · have h := cor_all n hn x y
      simp only [Prod.mk.injEq] at h
      obtain ⟨c1, _, _, _, b1, b2, b3⟩ := h
      obtain ⟨b, u, v, hr, hb, hc2⟩ := conds_ite c1
      obtain ⟨b', u', v', hr', hb', hc3⟩ := conds_ite hc2
      refine key [] ?_ b1 b2 b3
      simp only [Bool.false_eq_true, if_false] at hr' hb hb'
      subst hr'
      rw [hr, hb, hb']
      cases v' <;> rfl
    · have h := off_all n hn x y
      simp only [Prod.mk.injEq] at h
      obtain ⟨c1, _, b1, b2, b3⟩ := h
      exact key [] c1 b1 b2 b3
  bad2 := fun n hn x y hx hy k ys => by
    have h := off_all n hn x y
    simp only [Prod.mk.injEq] at h
    obtain ⟨c1, b1, _⟩ := h
    exact bad_call (H0 := cells2 n (n + 1) x y) (c := 2) tabA_sound (sel_of_conds _ [false, false] (by show allT (condsP (rB 54 n (n + 1) x y) [false, false]) = true; rw [c1, hx, hy]; rfl)) b1 (cells2_ro _ _ x y) k ys
  bad3 := fun n hn x y hx hy hs k ys => by
    have h := cor_all n hn x y
    simp only [Prod.mk.injEq] at h
    obtain ⟨c1, _, b3, _⟩ := h
    have c2 : condsP (rB 54 n n x y) [false, false, true] = [!!finL (xL n x), !!finL (xL n y), !finL (sumL n (coT n x y) idD)] := by
      obtain ⟨b, u, v, hr, hb, hc2⟩ := conds_ite c1
      simp only [Bool.false_eq_true, if_false] at hb hc2
      rw [hr]
      simp only [condsP, conds_flip hc2, hb, Bool.not_not]
    exact bad_call (H0 := cells2 n n x y) (c := 3) tabA_sound (sel_of_conds _ [false, false, true] (by show allT (condsP (rB 54 n n x y) [false, false, true]) = true; rw [c2, hx, hy, hs]; rfl)) b3 (cells2_ro _ _ x y) k ys
  good := fun n hn x y hx hy hs => by
    have h := cor_all n hn x y
    simp only [Prod.mk.injEq] at h
    obtain ⟨c1, o1, _⟩ := h
    exact out_call (H0 := cells2 n n x y) tabA_sound (sel_of_conds _ [false, false, false] (by show allT (condsP (rB 54 n n x y) [false, false, false]) = true; rw [c1, hx, hy, hs]; rfl)) o1 (cells2_ro _ _ x y)
theorem scor_two : TwoRun 55 where
  bad1 := fun n m hnm x y hf k ys => by
    have hc0 : (cond (!finL (xL n x)) true (!finL (xL m y))) = true := by
      cases hx : finL (xL n x) with
      | false => rfl
      | true => rw [hx, Bool.true_and] at hf; rw [hf]; rfl
    have key : ∀ ds us, condsP (rB 55 n m x y) (false :: ds) = (!cond (!finL (xL n x)) true (!finL (xL m y))) :: us → badK 2 1 ((rB 55 n m x y).at [true]) = true → CallOK Try.prog 55 [.sl true 0 0 n 1, .sl true 1 0 m 1] (cells2 n m x y) (uniV 2 false k 1) (cells2 n m x y ++ [uniB false ys]) := fun ds us hc b1 => by
      obtain ⟨b, u, v, hr, hb, _⟩ := conds_ite hc
      simp only [Bool.false_eq_true, if_false] at hb
      rw [hc0] at hb
      have : b = true := by simpa using hb.symm
      subst this
      rw [hr] at b1
      have e : (Res.ite true u v).at [true] = u := by cases u <;> rfl
      rw [e] at b1
      exact bad_call (H0 := cells2 n m x y) (c := 1) tabA_sound (r := u) (by show (rB 55 n m x y).sel = u.sel; rw [hr]; rfl) b1 (cells2_ro n m x y) k ys
    rcases hnm with ⟨rfl, hn⟩ | ⟨rfl, hn⟩
    · have h := scor_all n hn x y
      simp only [Prod.mk.injEq] at h
      obtain ⟨c1, _, _, b1⟩ := h
      rw [List.replicate_succ] at c1
      exact key _ _ c1 b1
    · have h := soff_all n hn x y
      simp only [Prod.mk.injEq] at h
      obtain ⟨c1, _, b1⟩ := h
      exact key _ _ c1 b1
  bad2 := fun n hn x y hx hy k ys => by
    have h := soff_all n hn x y
    simp only [Prod.mk.injEq] at h
    obtain ⟨c1, b1, _⟩ := h
    exact bad_call (H0 := cells2 n (n + 1) x y) (c := 2) tabA_sound (sel_of_conds _ [false] (by show allT (condsP (rB 55 n (n + 1) x y) [false]) = true; rw [c1, hx, hy]; rfl)) b1 (cells2_ro _ _ x y) k ys
  bad3 := fun n hn x y hx hy hs k ys => by
    have h := scor_all n hn x y
    simp only [Prod.mk.injEq] at h
    obtain ⟨c1, _, b3, _⟩ := h
    have hn0 : 0 < n := by
      simp only [nsC, List.mem_cons, List.not_mem_nil, or_false] at hn
      omega
    rw [List.replicate_succ] at c1
    obtain ⟨b, u, v, hr, hb, hc2⟩ := conds_ite c1
    simp only [Bool.false_eq_true, if_false] at hb hc2
    rw [hx, hy] at hb
    have : b = false := by simpa using hb.symm
    subst this
    rw [hr] at b3
    have hat : (Res.ite false u v).at [false] = v := by cases v <;> rfl
    rw [hat] at b3
    rcases chain_cases 2 3 (n * n) v b3 with ⟨h1, _⟩ | ⟨_, x', h2, h3⟩
    · rw [hc2, tests_eq (D := idD) hn0 (fun _ => rfl), hs] at h1; cases h1
    · exact bad_call (H0 := cells2 n n x y) (c := 3) tabA_sound (r := x') (by
        show (rB 55 n n x y).sel = x'.sel
        rw [hr]; exact h3) h2 (cells2_ro _ _ x y) k ys
  good := fun n hn x y hx hy hs => by
    have h := scor_all n hn x y
    simp only [Prod.mk.injEq] at h
    obtain ⟨c1, o1, _⟩ := h
    have hn0 : 0 < n := by
      simp only [nsC, List.mem_cons, List.not_mem_nil, or_false] at hn
      omega
    exact out_call (H0 := cells2 n n x y) tabA_sound (sel_of_conds _ (List.replicate (n * n + 1) false) (by
      show allT (condsP (rB 55 n n x y) (List.replicate (n * n + 1) false)) = true
      rw [c1]
      simp only [allT]
      rw [tests_eq (D := idD) hn0 (fun _ => rfl), hs, hx, hy]; rfl)) o1 (cells2_ro _ _ x y)
end Go.Ax
