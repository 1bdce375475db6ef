/- spec.l01Phase: the same table of 64 phases. -/
import Derived.Test.YtdcjjibekhcplaaEag
namespace Go.Ax
open Go Go.Proofs

/-- A call out of a way to a place and one evaluation from there. -/
theorem call_of_stage {P : Program} {T : Table} (hT : SoundT P T) {f : FuncId} {fn : Func} {c : Code} {args : List AV} {L : List Item} {t1 : List AV} {H H1 H' : List AB} {v : AV} {nd : List Bool} {n : Nat} (hf : P.funcs[f]? = some fn) (hb : fn.body = some c)
    (hr : Reach P [.code c] (args ++ undefs (fn.ntmps - args.length)) H L t1 H1) (he : (run P T n L t1 H1 [] (retK P fn fun v H nd => .ret v H nd)).sel = .ret v H' nd) (hn : allT nd = true) : CallOK P f args H v H' := by
  rcases run_sound hT (retK P fn fun v H nd => .ret v H nd) n L t1 H1 [] with h | ⟨t', H2, nd2, h1, h2⟩
  · rw [he] at h; cases h
  · rw [he] at h1
    unfold retK at h1
    cases hres : resV P t' H2 fn.results.toList with
    | none => rw [hres] at h1; cases h1
    | some x =>
      obtain ⟨vs, m⟩ := x
      rw [hres] at h1
      cases h1
      rw [allT_append, Bool.and_eq_true] at hn
      exact call_of_ends hf hb (hr.ends (h2 hn.2).2) hres hn.1

/-- l01Half at the four pairs of numbers that come up. -/
noncomputable def halfV (x y : Nat) : Option AV := match Nat.beq x 0 && Nat.beq y 1065353216 with
  | true => some (.tup [.f true .f32 1060439283, .f true .f32 1060439283])
  | false => match Nat.beq x 1060439283 && Nat.beq y 1060439283 with
    | true => some (.tup [.f true .f32 1064076127, .f true .f32 1053028117])
    | false => match Nat.beq x 1064076127 && Nat.beq y 1053028117 with
      | true => some (.tup [.f true .f32 1065030847, .f true .f32 1044891073])
      | false => match Nat.beq x 1065030847 && Nat.beq y 1044891073 with
        | true => some (.tup [.f true .f32 1065272429, .f true .f32 1036565813])
        | false => none
theorem half_1 : joinR 0 (runF Try.prog tabD 3000 260 [.f true .f32 0, .f true .f32 1065353216] [] [] fun v H nd => .ret v H nd) = some (.tup [.f true .f32 1060439283, .f true .f32 1060439283], []) := by kernel_rfl
theorem half_2 : joinR 0 (runF Try.prog tabD 3000 260 [.f true .f32 1060439283, .f true .f32 1060439283] [] [] fun v H nd => .ret v H nd) = some (.tup [.f true .f32 1064076127, .f true .f32 1053028117], []) := by kernel_rfl
theorem half_3 : joinR 0 (runF Try.prog tabD 3000 260 [.f true .f32 1064076127, .f true .f32 1053028117] [] [] fun v H nd => .ret v H nd) = some (.tup [.f true .f32 1065030847, .f true .f32 1044891073], []) := by kernel_rfl
theorem half_4 : joinR 0 (runF Try.prog tabD 3000 260 [.f true .f32 1065030847, .f true .f32 1044891073] [] [] fun v H nd => .ret v H nd) = some (.tup [.f true .f32 1065272429, .f true .f32 1036565813], []) := by kernel_rfl
noncomputable def gHalf : List AV → Option (AV × List Bool)
  | [.f l .f32 x, .f m .f32 y] => match l && m with
    | true => match halfV x y with
      | some v => some (v, [])
      | none => none
    | false => none
  | _ => none
theorem half_at : SoundAt Try.prog 260 (pureT gHalf) := fun args H nd K => by
  refine pureT_sound (fun args v n h hn H => ?_) args H nd K
  unfold gHalf at h
  split at h <;> (try (cases h; done))
  rename_i l x m y
  split at h <;> (try (cases h; done))
  rename_i hlm
  simp only [Bool.and_eq_true] at hlm
  obtain ⟨rfl, rfl⟩ := hlm
  split at h <;> cases h
  rename_i hv
  unfold halfV at hv
  have eq2 : ∀ {x y a b : Nat}, (Nat.beq x a && Nat.beq y b) = true → x = a ∧ y = b := fun h => by
    rw [Bool.and_eq_true] at h
    exact ⟨Nat.eq_of_beq_eq_true h.1, Nat.eq_of_beq_eq_true h.2⟩
  have hS := runF_sound tabD_sound 3000
  split at hv
  · rename_i he; obtain ⟨rfl, rfl⟩ := eq2 he; cases hv; exact call_of_join hS half_1 rfl rfl H
  split at hv
  · rename_i he; obtain ⟨rfl, rfl⟩ := eq2 he; cases hv; exact call_of_join hS half_2 rfl rfl H
  split at hv
  · rename_i he; obtain ⟨rfl, rfl⟩ := eq2 he; cases hv; exact call_of_join hS half_3 rfl rfl H
  split at hv
  · rename_i he; obtain ⟨rfl, rfl⟩ := eq2 he; cases hv; exact call_of_join hS half_4 rfl rfl H
  · cases hv
noncomputable def rowsH : List (FuncId × Table) := [(260, pureT gHalf)]
theorem rowsH_at : allAt Try.prog rowsH := ⟨half_at, trivial⟩
noncomputable def tabH : Table := deep Try.prog rowsH [] 3000 8
theorem tabH_sound : SoundT Try.prog tabH := deep_sound (allAt_mem rowsH_at) 8

noncomputable def spC : Code := Try.f195.body.getD .skip
noncomputable def sp0 (k : Int) : Res := toLoop Try.prog noT 100 [.code spC] (.i false .i64 k :: undefs 53) []
noncomputable def spL : List Item := (sp0 0).todo
noncomputable def spM : List Bool := [false, true, true, false, false, false, false] ++ List.replicate 47 true
noncomputable def spT (l : Bool) (j : Int) : List AV := [.i l .i64 j, .any, .any, .c true .f32 1065353216 0, .f true .f32 0, .f true .f32 1065353216, .i true .i64 8] ++ List.replicate 47 .any
def spXs : List Nat := [1065353216, 1065272429, 1065030847, 1064630795, 1064076127, 1063372184, 1062525746, 1061544964, 1060439283, 1059219353, 1057896922, 1056004842, 1053028118, 1049927730, 1044891077, 1036565820, 2147483648, 3184049461, 3192374721, 3197411377, 3200511765, 3203488489, 3205380570, 3206703001, 3207922931, 3209028611, 3210009393, 3210855831, 3211559775, 3212114443, 3212514495, 3212756078, 3212836864, 3212756077, 3212514495, 3212114443, 3211559775, 3210855832, 3210009394, 3209028612, 3207922931, 3206703001, 3205380570, 3203488490, 3200511766, 3197411378, 3192374725, 3184049468, 0, 1036565813, 1044891073, 1049927729, 1053028117, 1056004841, 1057896922, 1059219353, 1060439283, 1061544963, 1062525745, 1063372183, 1064076127, 1064630795, 1065030847, 1065272430]
def spYs : List Nat := [0, 1036565813, 1044891073, 1049927729, 1053028117, 1056004841, 1057896922, 1059219353, 1060439283, 1061544963, 1062525745, 1063372183, 1064076127, 1064630795, 1065030847, 1065272430, 1065353216, 1065272429, 1065030847, 1064630795, 1064076127, 1063372184, 1062525746, 1061544964, 1060439283, 1059219353, 1057896922, 1056004842, 1053028118, 1049927730, 1044891077, 1036565820, 2147483648, 3184049461, 3192374721, 3197411377, 3200511765, 3203488489, 3205380570, 3206703001, 3207922931, 3209028611, 3210009393, 3210855831, 3211559775, 3212114443, 3212514495, 3212756078, 3212836864, 3212756077, 3212514495, 3212114443, 3211559775, 3210855832, 3210009394, 3209028612, 3207922931, 3206703001, 3205380570, 3203488490, 3200511766, 3197411378, 3192374725, 3184049468]
noncomputable def spRun (j : Nat) : Res := run Try.prog tabH 3000 spL (spT true (Int.ofNat j)) [] [] (retK Try.prog Try.f195 fun v H nd => .ret v H nd)
noncomputable def spChk (j : Nat) : Bool := match spRun j with
  | .ret v H nd => match v with
    | .c _ .f32 x y => Nat.beq x (spXs.getD j 0) && Nat.beq y (spYs.getD j 0) && nd.isEmpty && H.isEmpty
    | _ => false
  | _ => false
theorem sp0_fin (k : Int) : (sp0 k).todo = spL ∧ leafM spM (sp0 k) = some (spT false ((IntKind.i64.wrap (k.tmod 64 + 64)).tmod 64), [], []) := by
  constructor <;> kernel_rfl
theorem sp_0 : ((0 :: 1 :: 2 :: [3]).all spChk) = true := by kernel_rfl
theorem sp_1 : ((4 :: 5 :: 6 :: [7]).all spChk) = true := by kernel_rfl
theorem sp_2 : ((8 :: 9 :: 10 :: [11]).all spChk) = true := by kernel_rfl
theorem sp_3 : ((12 :: 13 :: 14 :: [15]).all spChk) = true := by kernel_rfl
theorem sp_4 : ((16 :: 17 :: 18 :: [19]).all spChk) = true := by kernel_rfl
theorem sp_5 : ((20 :: 21 :: 22 :: [23]).all spChk) = true := by kernel_rfl
theorem sp_6 : ((24 :: 25 :: 26 :: [27]).all spChk) = true := by kernel_rfl
theorem sp_7 : ((28 :: 29 :: 30 :: [31]).all spChk) = true := by kernel_rfl
theorem sp_8 : ((32 :: 33 :: 34 :: [35]).all spChk) = true := by kernel_rfl
theorem sp_9 : ((36 :: 37 :: 38 :: [39]).all spChk) = true := by kernel_rfl
theorem sp_10 : ((40 :: 41 :: 42 :: [43]).all spChk) = true := by kernel_rfl
theorem sp_11 : ((44 :: 45 :: 46 :: [47]).all spChk) = true := by kernel_rfl
theorem sp_12 : ((48 :: 49 :: 50 :: [51]).all spChk) = true := by kernel_rfl
theorem sp_13 : ((52 :: 53 :: 54 :: [55]).all spChk) = true := by kernel_rfl
theorem sp_14 : ((56 :: 57 :: 58 :: [59]).all spChk) = true := by kernel_rfl
theorem sp_15 : ((60 :: 61 :: 62 :: [63]).all spChk) = true := by kernel_rfl
theorem sp_all (j : Nat) (h : j < 64) : spChk j = true := by
  have key : ∀ (i a b c d : Nat), ([a, b, c, d].all spChk) = true → a = 4 * i ∧ b = 4 * i + 1 ∧ c = 4 * i + 2 ∧ d = 4 * i + 3 → j / 4 = i → spChk j = true := fun i a b c d hall hq hj => by
    simp only [List.all_cons, List.all_nil, Bool.and_true, Bool.and_eq_true] at hall
    obtain ⟨rfl, rfl, rfl, rfl⟩ := hq
    have : j = 4 * i ∨ j = 4 * i + 1 ∨ j = 4 * i + 2 ∨ j = 4 * i + 3 := by omega
    rcases this with h | h | h | h
    · rw [h]; exact hall.1
    · rw [h]; exact hall.2.1
    · rw [h]; exact hall.2.2.1
    · rw [h]; exact hall.2.2.2
  have hj : j / 4 = 0 ∨ j / 4 = 1 ∨ j / 4 = 2 ∨ j / 4 = 3 ∨ j / 4 = 4 ∨ j / 4 = 5 ∨ j / 4 = 6 ∨ j / 4 = 7 ∨ j / 4 = 8 ∨ j / 4 = 9 ∨ j / 4 = 10 ∨ j / 4 = 11 ∨ j / 4 = 12 ∨ j / 4 = 13 ∨ j / 4 = 14 ∨ j / 4 = 15 := by omega
  rcases hj with h | h | h | h | h | h | h | h | h | h | h | h | h | h | h | h
  · exact key 0 _ _ _ _ sp_0 ⟨rfl, rfl, rfl, rfl⟩ h
  · exact key 1 _ _ _ _ sp_1 ⟨rfl, rfl, rfl, rfl⟩ h
  · exact key 2 _ _ _ _ sp_2 ⟨rfl, rfl, rfl, rfl⟩ h
  · exact key 3 _ _ _ _ sp_3 ⟨rfl, rfl, rfl, rfl⟩ h
  · exact key 4 _ _ _ _ sp_4 ⟨rfl, rfl, rfl, rfl⟩ h
  · exact key 5 _ _ _ _ sp_5 ⟨rfl, rfl, rfl, rfl⟩ h
  · exact key 6 _ _ _ _ sp_6 ⟨rfl, rfl, rfl, rfl⟩ h
  · exact key 7 _ _ _ _ sp_7 ⟨rfl, rfl, rfl, rfl⟩ h
  · exact key 8 _ _ _ _ sp_8 ⟨rfl, rfl, rfl, rfl⟩ h
  · exact key 9 _ _ _ _ sp_9 ⟨rfl, rfl, rfl, rfl⟩ h
  · exact key 10 _ _ _ _ sp_10 ⟨rfl, rfl, rfl, rfl⟩ h
  · exact key 11 _ _ _ _ sp_11 ⟨rfl, rfl, rfl, rfl⟩ h
  · exact key 12 _ _ _ _ sp_12 ⟨rfl, rfl, rfl, rfl⟩ h
  · exact key 13 _ _ _ _ sp_13 ⟨rfl, rfl, rfl, rfl⟩ h
  · exact key 14 _ _ _ _ sp_14 ⟨rfl, rfl, rfl, rfl⟩ h
  · exact key 15 _ _ _ _ sp_15 ⟨rfl, rfl, rfl, rfl⟩ h
end Go.Ax
