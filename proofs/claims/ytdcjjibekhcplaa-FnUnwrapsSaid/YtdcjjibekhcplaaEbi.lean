/- Ends in one of several states. -/
import Derived.Test.YtdcjjibekhcplaaEba
namespace Go.Ax
open Go

section
variable {P : Program}
def EndsS (P : Program) (todo : List Item) (t : List AV) (H : List AB) (S : List AV → List AB → Prop) : Prop :=
  ∀ (σ : List (Nat × Nat)) (w : World) (a : Act) (b : Frame) (cs : List Frame), Sim σ H w → RelL σ t a.tmps.toList → ∃ t' H', S t' H' ∧ ∃ a' w' σ' todo', Steps P (lone (b.at a todo) cs w) (lone { b.at a' todo' with mode := .returning } cs w') ∧
    RelL σ' t' a'.tmps.toList ∧ a'.defers = a.defers ∧ Sim σ' H' w' ∧ Fr σ H w σ' H' w'
theorem ReachS.endsS {todo todo1 : List Item} {t : List AV} {H : List AB} {S1 S : List AV → List AB → Prop} (h : ReachS P todo t H todo1 S1) (k : ∀ t1 H1, S1 t1 H1 → ∃ t' H', Ends P todo1 t1 H1 t' H' ∧ S t' H') : EndsS P todo t H S := fun σ w a b cs s r =>
  let ⟨t1, H1, h1, a1, w1, σ1, e1, r1, d1, s1, f1⟩ := h σ w a b cs s r
  let ⟨t', H', k', hS⟩ := k t1 H1 h1
  let ⟨a', w', σ', todo', e', r', d', s', f'⟩ := k' σ1 w1 a1 b cs s1 r1
  ⟨t', H', hS, a', w', σ', todo', e1.trans e', r', d'.trans d1, s', f1.trans f'⟩
theorem dropN_rel {σ : List (Nat × Nat)} {H : List AB} {w w' : World} {rv : Value} (hl : σ.length = H.length) : ∀ (ks : List Nat) {v v' : AV} {H1 H' : List AB} {σ1 : List (Nat × Nat)}, dropN H.length ks v H1 = some (v', H') → Rel σ1 v rv → Sim σ1 H1 w' → Fr σ H w σ1 H1 w' → ∃ σ2, Rel σ2 v' rv ∧ Sim σ2 H' w' ∧ Fr σ H w σ2 H' w'
  | [], _, _, _, _, σ1, h, r, s, f => by cases h; exact ⟨σ1, r, s, f⟩
  | k :: ks, _, _, _, _, σ1, h, r, s, f => by
    simp only [dropN] at h
    split at h
    · rename_i hb
      rw [Bool.and_eq_true] at hb
      obtain ⟨s2, f2⟩ := drop_sim hl s f k (Nat.le_of_ble_eq_true hb.1) (blt_true hb.2)
      exact dropN_rel hl ks h (renV_rel r) s2 f2
    · cases h
/-- A call out of its ends, each with blocks dropped. -/
theorem call_of_endsS {f : FuncId} {fn : Func} {c : Code} {args : List AV} {v : AV} {H H2 : List AB} {S : List AV → List AB → Prop} (hf : P.funcs[f]? = some fn) (hb : fn.body = some c)
    (h : EndsS P [.code c] (args ++ undefs (fn.ntmps - args.length)) H S) (hres : ∀ t' H', S t' H' → ∃ vs m ks, resV P t' H' fn.results.toList = some (vs, m) ∧ allT m = true ∧ dropN H.length ks (tupV vs) H' = some (v, H2)) : CallOK P f args H v H2 := fun σ w rargs s hra cs => by
  let b : Frame := { (default : Frame) with fn := f, kind := .normal }
  have henter : Frame.enter P f rargs .normal =
      b.at { tmps := rargs ++ Array.replicate (fn.ntmps - rargs.size) undef, defers := [] } [.code c] := by
    simp [Frame.enter, Frame.at, hf, hb, b]
  have hlen : args.length = rargs.size := by have := hra.length; simpa using this
  obtain ⟨t', H', hS, a', w', σ', todo', h3, h4, h5, h6, h7⟩ := h σ w { tmps := rargs ++ Array.replicate (fn.ntmps - rargs.size) undef, defers := [] } b cs s (by
    simp only [Array.toList_append, Array.toList_replicate]
    rw [hlen]
    exact hra.append (undefs_rel σ _))
  obtain ⟨vs, m, ks, hv, hm, hd⟩ := hres t' H' hS
  obtain ⟨rvs, h8, h9⟩ := resV_run (P := P) h6 h4 _ _ _ hv hm
  have hr : (results fn a'.tmps).run P w' = .ok (if h : rvs.toArray.size = 1 then rvs.toArray[0] else .tuple rvs.toArray) w' := by
    rw [results_eq, Array.mapM_eq_mapM_toList]
    simp only [Sem.run_bind, Sem.run_map, h8, Result.andThen_ok, Sem.run_pure]
  have hrel : Rel σ' (tupV vs) (if h : rvs.toArray.size = 1 then rvs.toArray[0] else .tuple rvs.toArray) := by
    cases h9 with
    | nil => exact .tup .nil
    | cons h hs => cases hs with
      | nil => exact h
      | cons h' hs' => exact .tup (.cons h (.cons h' hs'))
  obtain ⟨σ2, r2, s2, f2⟩ := dropN_rel s.len ks hd hrel h6 h7
  exact ⟨.returned _, w', _, ⟨_, rfl, σ2, r2, s2, f2⟩, by rw [henter]; exact h3, rfl, rfl, h5, rfl, fn, hf, hr⟩
theorem heq_mid {A B : AB} (h : A.rw = B.rw ∧ A.live = B.live ∧ ∀ σ z o, BlkRel σ z A o → BlkRel σ z B o) (G : List AB) : ∀ (H : List AB), HEq (H ++ A :: G) (H ++ B :: G)
  | [] => HEq.cons h (HEq.refl G)
  | _ :: H => HEq.cons ⟨rfl, rfl, fun _ _ _ h => h⟩ (heq_mid h G H)
end
end Go.Ax
