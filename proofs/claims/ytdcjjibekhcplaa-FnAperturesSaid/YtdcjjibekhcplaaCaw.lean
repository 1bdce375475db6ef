/- What the law of apertures draws, evaluated. -/
import Derived.Test.YtdcjjibekhcplaaCav
namespace Go.Ax
open Go Go.Proofs

def ok50 (n : Nat) : Bool := decide (n ∈ [3, 7, 11, 19, 23, 31, 5])
def ok56 (n : Nat) : Bool := decide (n = 0) || decide (n ∈ nsB)
def okND (c : Cd) (r : Res) : List (List Bool) := r.rets.map fun x => List.replicate x.nd.length (okB c c.off c.len)
theorem okND_ok {c : Cd} {r : Res} (h : okB c c.off c.len = true) : ∀ l ∈ okND c r, allT l = true := fun l hl => by
  obtain ⟨x, _, rfl⟩ := List.mem_map.1 hl
  rw [h]; exact allT_rep _
def inter (b : Bool) : Nat → List Bool → List Bool
  | 0, l => l
  | n + 1, l => true :: b :: inter b n l
theorem inter_ok : ∀ (n : Nat) {l : List Bool}, allT l = true → allT (inter true n l) = true
  | 0, _, h => h
  | n + 1, l, h => by simp only [inter, allT, Bool.true_and]; exact inter_ok n h
def lenD (x : LeafR) : Nat := match lenF x with
  | some n => n
  | none => 0
def patC (b : Bool) (x : LeafR) : List Bool := List.replicate x.nd.length b
def patA (b : Bool) (x : LeafR) : List Bool := inter b (lenD x) [b, b, b]
def patB (b : Bool) (x : LeafR) : List Bool := List.replicate (lenD x) true ++ List.replicate (x.nd.length - lenD x) b
def pats (b : Bool) (L : List LeafR) : List (List Bool) := (L.take 6).map (patC b) ++ (((L.drop 6).take 254).map (patA b) ++ (L.drop 260).map (patB b))
theorem pats_ok {b : Bool} {L : List LeafR} (h : b = true) : ∀ l ∈ pats b L, allT l = true := fun l hl => by
  subst h
  simp only [pats, List.mem_append, List.mem_map] at hl
  rcases hl with ⟨x, _, rfl⟩ | ⟨x, _, rfl⟩ | ⟨x, _, rfl⟩
  · exact allT_rep _
  · exact inter_ok _ rfl
  · unfold patB
    rw [allT_append, Bool.and_eq_true]
    exact ⟨allT_rep _, allT_rep _⟩
theorem draw50 (c : Cd) : ((drawR (tabDL 7) 50 c).allRet, (drawR (tabDL 7) 50 c).rets.all (lenOK ok50), (drawR (tabDL 7) 50 c).rets.map (fun x => x.nd)) = (true, true, okND c (drawR (tabDL 7) 50 c)) := by kernel_rfl
theorem draw56 (c : Cd) : ((drawR (tabDL 8) 56 c).allRet, (drawR (tabDL 8) 56 c).rets.all (lenOK ok56), (drawR (tabDL 8) 56 c).rets.map (fun x => x.nd)) = (true, true, pats (okB c c.off c.len) (drawR (tabDL 8) 56 c).rets) := by kernel_rfl
theorem draw53 (c : Cd) : ((drawR (tabDL 20) 53 c).allRet, (drawR (tabDL 20) 53 c).rets.all (lenOK2 lenQ), (drawR (tabDL 20) 53 c).rets.map (fun x => x.nd)) = (true, true, okND c (drawR (tabDL 20) 53 c)) := by kernel_rfl
theorem draw50_ok {c : Cd} (hc : goodB c = true) : ∃ xs, ok50 xs.length = true ∧ DrawL 50 c xs := by
  have h := draw50 c
  simp only [Prod.mk.injEq] at h
  exact drawF_of (tabDL_sound 7) hc h.1 h.2.1 h.2.2 fun h => okND_ok h
theorem draw56_ok {c : Cd} (hc : goodB c = true) : ∃ xs, ok56 xs.length = true ∧ DrawL 56 c xs := by
  have h := draw56 c
  simp only [Prod.mk.injEq] at h
  exact drawF_of (tabDL_sound 8) hc h.1 h.2.1 h.2.2 fun h => pats_ok h
theorem draw53_ok {c : Cd} (hc : goodB c = true) : ∃ xs ys, lenQ xs.length ys.length = true ∧ DrawLL 53 c xs ys := by
  have h := draw53 c
  simp only [Prod.mk.injEq] at h
  exact drawG_of (tabDL_sound 20) hc h.1 h.2.1 h.2.2 fun h => okND_ok h
theorem draw47_ok {c : Cd} (hc : goodB c = true) : ∃ xs, ok50 xs.length = true ∧ DrawL 47 c xs := by
  obtain ⟨xs, h, hd⟩ := drawShadow_ok hc
  refine ⟨xs, ?_, hd⟩
  simp only [shadowQ, List.map_cons, List.map_nil, List.mem_cons, List.not_mem_nil, or_false] at h
  rcases h with h | h | h | h | h | h | h <;> rw [h] <;> rfl

/-! ### The prime -/
noncomputable def pkB (c : Cd) (j : Nat) : Bool := decide (nxV c 0 (fromV c) 7 = Int.ofNat (j + 1))
noncomputable def pkV (c : Cd) : Int := cond (pkB c 5) 5 (cond (pkB c 4) 31 (cond (pkB c 3) 23 (cond (pkB c 2) 19 (cond (pkB c 1) 11 (cond (pkB c 0) 7 3)))))
noncomputable def pkR (c : Cd) : Res := runF Try.prog (tab4 7) 1000 43 [.sl false 0 c.off c.len 0] [codeB c false] [] fun v H nd => .ret v H nd
theorem pk_run (c : Cd) : ((drawEx formI (pkR c)).map (fun r => r.1), (drawEx formI (pkR c)).map (fun r => r.2)) = (some (pkV c), (drawEx formI (pkR c)).map (fun r => List.replicate r.2.length (okB c c.off c.len))) := by kernel_rfl
def p7 : List Int := [3, 7, 11, 19, 23, 31, 5]
theorem draw43_ok {c : Cd} (hc : goodB c = true) : ∃ p ∈ p7, DrawOK Try.prog 43 c (.i false .i64 p) := by
  have h := pk_run c
  simp only [Prod.mk.injEq] at h
  obtain ⟨h1, h2⟩ := h
  cases hr : drawEx formI (pkR c) with
  | none => rw [hr] at h1; cases h1
  | some r =>
    obtain ⟨x, nd⟩ := r
    rw [hr] at h1 h2
    simp only [Option.map_some, Option.some.injEq] at h1 h2
    subst h1
    refine ⟨pkV c, ?_, drawOK_of (F := formI) (runF_sound (tab4_sound 7) 1000) hr ?_⟩
    · unfold pkV
      cases pkB c 5 <;> cases pkB c 4 <;> cases pkB c 3 <;> cases pkB c 2 <;> cases pkB c 1 <;> cases pkB c 0 <;> decide
    · have hok : okB c c.off c.len = true := by simp [okB, hc]
      rw [h2, hok]
      exact allT_rep _
end Go.Ax
