/- impl.PhaseOf: a table of 64 phases. -/
import Derived.Test.YtdcjjibekhcplaaGreatBag
namespace Go.Ax
open Go Go.Proofs

def phXs : List Nat := [1065353216, 1065272429, 1065030847, 1064630795, 1064076127, 1063372184, 1062525746, 1061544964, 1060439283, 1059219353, 1057896922, 1056004842, 1053028118, 1049927730, 1044891077, 1036565820, 0, 3184049461, 3192374721, 3197411377, 3200511765, 3203488489, 3205380570, 3206703001, 3207922931, 3209028611, 3210009393, 3210855831, 3211559775, 3212114443, 3212514495, 3212756078, 3212836864, 3212756077, 3212514495, 3212114443, 3211559775, 3210855832, 3210009394, 3209028612, 3207922931, 3206703001, 3205380570, 3203488490, 3200511766, 3197411378, 3192374725, 3184049468, 0, 1036565813, 1044891073, 1049927729, 1053028117, 1056004841, 1057896922, 1059219353, 1060439283, 1061544963, 1062525745, 1063372183, 1064076127, 1064630795, 1065030847, 1065272430]
def phYs : List Nat := [0, 1036565813, 1044891073, 1049927729, 1053028117, 1056004841, 1057896922, 1059219353, 1060439283, 1061544963, 1062525745, 1063372183, 1064076127, 1064630795, 1065030847, 1065272430, 1065353216, 1065272429, 1065030847, 1064630795, 1064076127, 1063372184, 1062525746, 1061544964, 1060439283, 1059219353, 1057896922, 1056004842, 1053028118, 1049927730, 1044891077, 1036565820, 0, 3184049461, 3192374721, 3197411377, 3200511765, 3203488489, 3205380570, 3206703001, 3207922931, 3209028611, 3210009393, 3210855831, 3211559775, 3212114443, 3212514495, 3212756078, 3212836864, 3212756077, 3212514495, 3212114443, 3211559775, 3210855832, 3210009394, 3209028612, 3207922931, 3206703001, 3205380570, 3203488490, 3200511766, 3197411378, 3192374725, 3184049468]
def chain (tab : List Nat) (x : Int) : Nat → Nat
  | 0 => tab.getD 0 0
  | j + 1 => cond (decide (x = Int.ofNat (j + 1))) (tab.getD (j + 1) 0) (chain tab x j)
theorem chain_get (tab : List Nat) (x : Nat) : ∀ j, x ≤ j → chain tab x j = tab.getD x 0
  | 0, h => by have : x = 0 := by omega
               subst this; rfl
  | j + 1, h => by
    by_cases hx : x = j + 1
    · subst hx
      have : decide (((j + 1 : Nat) : Int) = Int.ofNat (j + 1)) = true := by simp
      rw [chain, this]; rfl
    · have : decide ((x : Int) = Int.ofNat (j + 1)) = false := by simp; omega
      rw [chain, this]
      exact chain_get tab x j (by omega)
/-- The phase of k: its parts. -/
def phX (k : Int) : Nat := chain phXs (k % 64) 63
def phY (k : Int) : Nat := chain phYs (k % 64) 63
noncomputable def tabQ : Table := deep Tryz.prog rowsP [199] 3000 8
theorem tabQ_sound : SoundT Tryz.prog tabQ := deep_sound (allAt_mem rowsP_at) 8
theorem phase_run (k : Int) : joinR 0 (runF Tryz.prog tabQ 3000 153 [.i false .i64 k] [] [] fun v H nd => .ret v H nd) = some (.c false .f32 (phX k) (phY k), []) := by kernel_rfl
theorem phase_ok (k : Int) (H : List AB) : CallOK Tryz.prog 153 [.i false .i64 k] H (.c false .f32 (phX k) (phY k)) H := call_of_join (runF_sound tabQ_sound 3000) (phase_run k) rfl rfl H
def gPhase : List AV → Option (AV × List Bool)
  | [.i _ .i64 k] => some (.c false .f32 (phX k) (phY k), [])
  | _ => none
theorem phase_at : SoundAt Tryz.prog 153 (pureT gPhase) := fun args H nd K => by
  refine pureT_sound (fun args v n h hn H => ?_) args H nd K
  unfold gPhase at h
  split at h <;> cases h
  rename_i l k
  exact (phase_ok k H).bare (args' := [.i l .i64 k]) rfl
end Go.Ax
