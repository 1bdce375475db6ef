/-
  DERIVED. GIVEN WITH THE SEED: THE CARDS: each row of YtaboeibkmknocaaDoorRows.lean that lists a variable, with what it lists TIED to the program's text (the seventh form; the later family's looks); each row that meets fmt, with fmt's text TOLD by the authors' own Lean function (tested against real Go, not proved from fmt's source: count such statements apart). THE CARD IS WHAT COUNTS. Prove the row's statement (the work); the ties are given (YtaboeibkmknocaaDoorTie.lean); close each card by the builder's one call (the guide's Derived/Test/ToyasCard.lean, 'card_holds'). Laid BY PROGRAM, IN A SANDBOX (cutbox-door.mjs). By AI agents, Wed Nov 11 2026. No macro, syntax, notation, axiom, sorry.
-/
import Derived.Test.YtaboeibkmknocaaDoorRows
import GoSem.ClaimSeven
namespace Go.Proofs.YtaboeibkmknocaaDoor
namespace Rows

/-- THE TIED CARD OF 'laws.FnExactParseWave'. -/
def fnExactParseWaveCard : Claim7 := { stood := { row := fnExactParseWaveRow, standIns := [], harness := (true, "210da0b54aec1d724d397b8d510e0355c25e4558350c4970fcc63dc5e77bcccb"), looks := true }, kinds := [], alts := [], laidByText := true, laidKinds := [.data, .data, .data, .data, .sentinel, .sentinel, .pinned], laidTests := true, laidLooks := .later }
def FnExactParseWaveCardSaid : Prop := Claim7.holds Tryd.pinned (.plain (OpenSpec.ofChange fnExactParseWaveSpec)) fnExactParseWaveCard

/-- THE SECOND FORM's CARD OF 'laws.FnExactParseWave'. -/
def fnExactParseWaveUptoCard : Claim7 := { stood := { row := fnExactParseWaveUptoRow, standIns := [], harness := (true, "210da0b54aec1d724d397b8d510e0355c25e4558350c4970fcc63dc5e77bcccb"), looks := true }, kinds := [], alts := [], laidByText := true, laidKinds := [.data, .data, .data, .data, .sentinel, .sentinel, .pinned], laidTests := true, laidLooks := .later }
def FnExactParseWaveUptoCardSaid : Prop := Claim7.holds Tryd.pinned (.plain (OpenSpec.upto fnExactParseWaveSpec)) fnExactParseWaveUptoCard
end Rows
end Go.Proofs.YtaboeibkmknocaaDoor
