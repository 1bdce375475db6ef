/- Table rows on waves. -/
import Derived.Test.YtdcjjibekhcplaaGreatBak
namespace Go.Ax
open Go Go.Proofs

/-- The numbers of a wave. -/
def ofW : List AV → Option (Int × (Nat → Nat × Nat))
  | .i _ .i64 n :: l => match asC64 l with
    | some xs => match Nat.beq xs.length 64 with
      | true => some (n, fun j => xs.getD j (0, 0))
      | false => none
    | none => none
  | _ => none
theorem ofW_spec {l : List AV} {n : Int} {X : Nat → Nat × Nat} (h : ofW l = some (n, X)) : (AV.agg l).deep = (wv n X).deep := by
  unfold ofW at h
  split at h <;> (try (cases h; done))
  split at h <;> (try (cases h; done))
  rename_i xs hx
  split at h <;> (try (cases h; done))
  rename_i hlen
  simp only [Option.some.injEq, Prod.mk.injEq] at h
  obtain ⟨rfl, rfl⟩ := h
  have e1 := asC64_bare hx
  rw [map_range_getD (fun z => AV.c false .f32 z.1 z.2) (0, 0) xs 64 (Nat.eq_of_beq_eq_true hlen)] at e1
  simp only [AV.deep, wv, waveL, List.map_cons, e1]
  rw [List.map_map]
  rfl
noncomputable def gIsWave : List AV → Option (AV × List Bool)
  | [.agg l] => match ofW l with
    | some (n, X) => some (.b false (isWaveB n X), [])
    | none => none
  | _ => none
theorem isWave_at (f : FuncId) (hf : f = 137 ∨ f = 162) : SoundAt Tryz.prog f (pureT gIsWave) := fun args H nd K => by
  refine pureT_sound (fun args v n h hn H => ?_) args H nd K
  unfold gIsWave at h
  split at h <;> (try (cases h; done))
  split at h <;> cases h
  rename_i hl
  exact (is_ok f hf _ _ H).deep (by simp [ofW_spec hl])
noncomputable def rowsW : List (FuncId × Table) := [(137, pureT gIsWave), (162, pureT gIsWave)]
theorem rowsW_at : ∀ p ∈ rowsW, SoundAt Tryz.prog p.1 p.2 := fun p hp => by
  simp only [rowsW, List.mem_cons, List.not_mem_nil, or_false] at hp
  rcases hp with rfl | rfl
  · exact isWave_at 137 (.inl rfl)
  · exact isWave_at 162 (.inr rfl)
noncomputable def tabX : Table := tabOf (cdeep Tryz.prog rowsW [] 3000 8)
theorem tabX_sound : SoundT Tryz.prog tabX := cdeep_sound rowsW_at 8
end Go.Ax
