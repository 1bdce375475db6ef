/- Codes of Walsh: what is to be evaluated. -/
import Derived.Test.YtdcjjibekhcplaaDan
namespace Go.Ax
open Go Go.Proofs

noncomputable def rowsWc : List (FuncId × Table) := [(143, wgTb), (237, pureT gWal), (233, finT), (150, finT), (244, pureT gIsPic), (247, pureT gIsPic)]
theorem rowsWc_at : ∀ p ∈ rowsWc, SoundAt Try.prog p.1 p.2 := fun p hp => by
  simp only [rowsWc, List.mem_cons, List.not_mem_nil, or_false] at hp
  rcases hp with rfl | rfl | rfl | rfl | rfl | rfl
  · exact wg_at
  · exact wal_at
  · exact are_at
  · exact fine_at
  · exact isPic_at 244 (.inl rfl)
  · exact isPic_at 247 (.inr rfl)
noncomputable def tabWc : Table := tabOf (jdeep Try.prog rowsWc inlW 40000 10)
theorem tabWc_sound : SoundT Try.prog tabWc := jdeep_sound rowsWc_at 10
noncomputable def rWk (f : FuncId) (n : Int) (k : Int) : Res := tabWc f [.i true .i64 n, .i false .i64 k] [] [] fun v H nd => .ret v H nd
/-- The list of an answer, its number, and what is to be shown. -/
def outD (k0 : Nat) : Res → Option (List Nat × AV × List Bool)
  | .ret v H nd => match outK k0 (.ret v H []) with
    | some (xs, c, _) => some (xs, c, nd)
    | none => none
  | _ => none
theorem outK_nd (k0 : Nat) (v : AV) (H : List AB) (nd : List Bool) : outK k0 (.ret v H nd) = (outK k0 (.ret v H [])).map fun r => (r.1, r.2.1, allT nd) := by
  unfold outK
  dsimp only
  repeat' (first | rfl | split)
theorem outD_K {k0 : Nat} {r : Res} {xs : List Nat} {c : AV} {nd : List Bool} (h : outD k0 r = some (xs, c, nd)) (hn : allT nd = true) : outK k0 r = some (xs, c, true) := by
  unfold outD at h
  split at h <;> (try (cases h; done))
  rename_i v H nd'
  split at h <;> cases h
  rename_i b ho
  rw [outK_nd, ho, ← hn]
  rfl
def inK (n k : Int) : Bool := cond (leQ false 0 k) (leQ false k (n - 1)) false
def intT (b : Bool) : Nat → List Bool
  | 0 => []
  | n + 1 => true :: b :: intT b n
theorem intT_ok : ∀ n, allT (intT true n) = true
  | 0 => rfl
  | n + 1 => by simp only [intT, allT, Bool.true_and]; exact intT_ok n
def wkQ (k : Int) (n : Nat) : Bool → List Bool
  | false => List.replicate (2 * n) true ++ intT (in64 k && true) n
  | true => List.replicate (2 * n) true ++ [in64 k]
def WkRun (f : FuncId) (n : Nat) (m : Bool) : Prop := ∀ k, (condsP (rWk f (Int.ofNat n) k) [false], outD 0 ((rWk f (Int.ofNat n) k).at [false]), condsP (rWk f (Int.ofNat n) k) [true], badC 0 2 ((rWk f (Int.ofNat n) k).at [true])) =
    ([!!inK (Int.ofNat n) k], some (plusM (walL n k.toNat), .i true .i64 0, wkQ k n m), [!inK (Int.ofNat n) k], true)
def WkBad (f : FuncId) (n : Int) : Prop := ∀ k, badC 0 2 (rWk f n k) = true
end Go.Ax
