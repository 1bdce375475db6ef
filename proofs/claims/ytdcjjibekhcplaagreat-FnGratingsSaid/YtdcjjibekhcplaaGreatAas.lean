/- spec.SlitMask: every slit within a side, and what is none. -/
import Derived.Test.YtdcjjibekhcplaaGreatAar
namespace Go.Ax
open Go Go.Proofs

def slP (n : Nat) : List (Nat × Nat) := (List.range n).flatMap fun x => (List.range (n + 1 - x)).map fun w => (x, w)
theorem slP_mem {n x w : Nat} (hx : x < n) (hw : x + w ≤ n) : (x, w) ∈ slP n := by
  unfold slP
  simp only [List.mem_flatMap, List.mem_range, List.mem_map, Prod.mk.injEq]
  exact ⟨x, hx, w, by omega, rfl, rfl⟩
noncomputable def rSl (n : Int) (x w : Nat) : Option (AV × List Bool) := joinR 0 (tabGr 8 [.i true .i64 n, .i true .i64 (Int.ofNat x), .i true .i64 (Int.ofNat w)] [] [] fun v H nd => .ret v H nd)
noncomputable def bar (r : Option (AV × List Bool)) : Option (List AV × AV × List Bool) := match r with
  | some (.tup [.agg l, c], nd) => some (l.map AV.bare, c.bare, nd)
  | _ => none
def slV (n : Nat) (x w : Nat) : AV := mkV (n * n) (Int.ofNat n) false (bit (slT (Int.ofNat n) (Int.ofNat x) (Int.ofNat w))) (zer (slT (Int.ofNat n) (Int.ofNat x) (Int.ofNat w)))
theorem sl_1 : ((slP 1).map fun p => bar (rSl 1 p.1 p.2)) = (slP 1).map fun p => bar (some (slV 1 p.1 p.2, [])) := by kernel_rfl
theorem sl_2 : ((slP 2).map fun p => bar (rSl 2 p.1 p.2)) = (slP 2).map fun p => bar (some (slV 2 p.1 p.2, [])) := by kernel_rfl
theorem sl_4 : ((slP 4).map fun p => bar (rSl 4 p.1 p.2)) = (slP 4).map fun p => bar (some (slV 4 p.1 p.2, [])) := by kernel_rfl
theorem between_run (a lo hi : Int) : joinR 0 (tabW 134 [.i false .i64 a, .i false .i64 lo, .i false .i64 hi] [] [] fun v H nd => .ret v H nd) = some (.b false (inR lo a hi), []) := by kernel_rfl
def gNoR : List AV → Option (AV × List Bool)
  | [.i l .i64 a, .i _ .i64 lo, .i _ .i64 hi] => match l with
    | true => some (.b true (inR lo a hi), [])
    | false => some (.b true false, [!inR lo a hi])
  | _ => none
theorem noR_at : SoundAt Tryz.prog 134 (pureT gNoR) := fun args H nd K => by
  refine pureT_sound (fun args v n h hn H => ?_) args H nd K
  unfold gNoR at h
  split at h <;> (try (cases h; done))
  rename_i l a l1 lo l2 hi
  have k := (call_of_join tabW_sound (between_run a lo hi) rfl rfl H).bare (args' := [.i l .i64 a, .i l1 .i64 lo, .i l2 .i64 hi]) rfl
  cases l with
  | true => cases h; exact k.weaken fun σ x r => by cases r; exact .b _
  | false =>
    cases h
    have e : inR lo a hi = false := by simpa [allT] using hn
    rw [e] at k
    exact k.weaken fun σ x r => by cases r; exact .b _
noncomputable def rowsSl : List (FuncId × Table) := (134, pureT gNoR) :: rowsG
theorem rowsSl_at : ∀ p ∈ rowsSl, SoundAt Tryz.prog p.1 p.2 := fun p hp => by
  simp only [rowsSl, List.mem_cons] at hp
  rcases hp with rfl | hp
  · exact noR_at
  · exact rowsG_at p (by simpa [rowsG] using hp)
noncomputable def tabSl : Table := tabOf (jdeep Tryz.prog rowsSl [] 4000 10)
theorem tabSl_sound : SoundT Tryz.prog tabSl := jdeep_sound rowsSl_at 10
noncomputable def rSx (n : Int) (x w : Int) : Option (AV × List Bool) := joinR 0 (tabSl 8 [.i true .i64 n, .i false .i64 x, .i false .i64 w] [] [] fun v H nd => .ret v H nd)
theorem sl_badX (n : Int) (hn : n ∈ ([1, 2, 4, 8] : List Int)) (x w : Int) : rSx n x w = some (zeroV 2, [!inR 0 x (n - 1)]) := by
  simp only [List.mem_cons, List.not_mem_nil, or_false] at hn
  rcases hn with rfl | rfl | rfl | rfl <;> kernel_rfl
noncomputable def rSw (n : Int) (x : Nat) (w : Int) : Option (AV × List Bool) := joinR 0 (tabSl 8 [.i true .i64 n, .i true .i64 (Int.ofNat x), .i false .i64 w] [] [] fun v H nd => .ret v H nd)
theorem sl_badW (n : Int) (hn : n ∈ ([1, 2, 4, 8] : List Int)) (w : Int) : ((List.range n.toNat).map fun x => rSw n x w) = (List.range n.toNat).map fun x => some (zeroV 2, [!inR 0 w (wr (n - Int.ofNat x))]) := by
  simp only [List.mem_cons, List.not_mem_nil, or_false] at hn
  rcases hn with rfl | rfl | rfl | rfl <;> kernel_rfl
theorem g8_no (n x w : Int) : rN 8 n [x, w] = some (zeroV 2, [!sideB n]) := by kernel_rfl
end Go.Ax
