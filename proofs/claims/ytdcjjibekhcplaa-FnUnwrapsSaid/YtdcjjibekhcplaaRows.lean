/-
  No cell of these rows narrows 'for every input' (looked for: loops, veiled, ifaces, maps, wideKeys, modest, calm, conditions, laid).
  DERIVED. THE GIVEN ROWS OF THIS SEAT. 5 by the template 'for every input the law returns true; each argument reads behind the call as it read before'; 0 by the template 'total and deterministic' (their statements: YtdcjjibekhcplaaTotals.lean).
  GIVEN WITH THE SEED: the statements are not yours to turn. If you find one false, say at which input.
  Laid BY PROGRAM, IN A SANDBOX (cutbox-rows.mjs): the forced cells as the released guide's own fill.sh prints them over the translation 5bf3e64bcc9dd22f… (all of the seat's roots in one cut). By AI agents, Wed Nov 11 2026. No macro, syntax, notation, axiom, sorry.
-/
import Derived.Test.YtdcjjibekhcplaaChecked
import GoSem.Claim
import GoSem.ClaimJoined
import GoSem.ClaimMapViews
import Derived.JoinedTies
import Derived.KernelRfl
namespace Go.Proofs.Ytdcjjibekhcplaa
/- THE CELL 'sum', in the pinned program and in every row, IS THE sha256 OF THE DUMP (.gsa) THAT YtdcjjibekhcplaaProg.lean LOADS. Nothing in Lean hashes anything: it is a label: what it is worth is what the hold of that sum in a sandbox is worth. -/
noncomputable def Try.pinned : Pinned := { name := "ytdcjjibekhcplaa", sum := "5bf3e64bcc9dd22fcacab0ca358964cacca695462a51e288b52003aea69f1bf6", checked := Try.checked }
namespace Rows
def none {H : Type} : Left H := { results := [], args := [] }

/-- 'laws.FnPhases': WHATEVER THE INPUT: true; the input reads as it did. -/
def fnPhasesSpec : ChangeSpec := { name := "fnPhases", fn := fun _ => fun
  | [d] => { results := [.lit (.bool true)], args := [d] }
  | _ => none }
def fnPhasesRow : OpenClaim := { program := "ytdcjjibekhcplaa", sum := "5bf3e64bcc9dd22fcacab0ca358964cacca695462a51e288b52003aea69f1bf6", func := "loop.example/g01225/laws.FnPhases", spec := "fnPhases", inPlace := ["math.sqrt"], unfollowed := true, recurses := true, apart := false }
def FnPhasesSaid : Prop := fnPhasesRow.holds Try.pinned (OpenSpec.ofChange fnPhasesSpec)

/-- ITS FALSE NEIGHBOUR: 'it returns false'. Refute it at one input. -/
def fnPhasesWrong : ChangeSpec := { name := "fnPhases", fn := fun _ => fun
  | [d] => { results := [.lit (.bool false)], args := [d] }
  | _ => none }
def FnPhasesWrongFalsely : Prop := fnPhasesRow.holds Try.pinned (OpenSpec.ofChange fnPhasesWrong)

/-- 'laws.FnMasks': WHATEVER THE INPUT: true; the input reads as it did. -/
def fnMasksSpec : ChangeSpec := { name := "fnMasks", fn := fun _ => fun
  | [d] => { results := [.lit (.bool true)], args := [d] }
  | _ => none }
def fnMasksRow : OpenClaim := { program := "ytdcjjibekhcplaa", sum := "5bf3e64bcc9dd22fcacab0ca358964cacca695462a51e288b52003aea69f1bf6", func := "loop.example/g01225/laws.FnMasks", spec := "fnMasks", unfollowed := true, recurses := true, apart := false }
def FnMasksSaid : Prop := fnMasksRow.holds Try.pinned (OpenSpec.ofChange fnMasksSpec)

/-- ITS FALSE NEIGHBOUR: 'it returns false'. Refute it at one input. -/
def fnMasksWrong : ChangeSpec := { name := "fnMasks", fn := fun _ => fun
  | [d] => { results := [.lit (.bool false)], args := [d] }
  | _ => none }
def FnMasksWrongFalsely : Prop := fnMasksRow.holds Try.pinned (OpenSpec.ofChange fnMasksWrong)

/-- 'laws.FnApertures': WHATEVER THE INPUT: true; the input reads as it did. -/
def fnAperturesSpec : ChangeSpec := { name := "fnApertures", fn := fun _ => fun
  | [d] => { results := [.lit (.bool true)], args := [d] }
  | _ => none }
def fnAperturesRow : OpenClaim := { program := "ytdcjjibekhcplaa", sum := "5bf3e64bcc9dd22fcacab0ca358964cacca695462a51e288b52003aea69f1bf6", func := "loop.example/g01225/laws.FnApertures", spec := "fnApertures", unfollowed := true, recurses := true, apart := false }
def FnAperturesSaid : Prop := fnAperturesRow.holds Try.pinned (OpenSpec.ofChange fnAperturesSpec)

/-- ITS FALSE NEIGHBOUR: 'it returns false'. Refute it at one input. -/
def fnAperturesWrong : ChangeSpec := { name := "fnApertures", fn := fun _ => fun
  | [d] => { results := [.lit (.bool false)], args := [d] }
  | _ => none }
def FnAperturesWrongFalsely : Prop := fnAperturesRow.holds Try.pinned (OpenSpec.ofChange fnAperturesWrong)

/-- 'laws.FnWalshCodes': WHATEVER THE INPUT: true; the input reads as it did. -/
def fnWalshCodesSpec : ChangeSpec := { name := "fnWalshCodes", fn := fun _ => fun
  | [d] => { results := [.lit (.bool true)], args := [d] }
  | _ => none }
def fnWalshCodesRow : OpenClaim := { program := "ytdcjjibekhcplaa", sum := "5bf3e64bcc9dd22fcacab0ca358964cacca695462a51e288b52003aea69f1bf6", func := "loop.example/g01225/laws.FnWalshCodes", spec := "fnWalshCodes", unfollowed := true, recurses := true, apart := false }
def FnWalshCodesSaid : Prop := fnWalshCodesRow.holds Try.pinned (OpenSpec.ofChange fnWalshCodesSpec)

/-- ITS FALSE NEIGHBOUR: 'it returns false'. Refute it at one input. -/
def fnWalshCodesWrong : ChangeSpec := { name := "fnWalshCodes", fn := fun _ => fun
  | [d] => { results := [.lit (.bool false)], args := [d] }
  | _ => none }
def FnWalshCodesWrongFalsely : Prop := fnWalshCodesRow.holds Try.pinned (OpenSpec.ofChange fnWalshCodesWrong)

/-- 'laws.FnUnwraps': WHATEVER THE INPUT: true; the input reads as it did. -/
def fnUnwrapsSpec : ChangeSpec := { name := "fnUnwraps", fn := fun _ => fun
  | [d] => { results := [.lit (.bool true)], args := [d] }
  | _ => none }
def fnUnwrapsRow : OpenClaim := { program := "ytdcjjibekhcplaa", sum := "5bf3e64bcc9dd22fcacab0ca358964cacca695462a51e288b52003aea69f1bf6", func := "loop.example/g01225/laws.FnUnwraps", spec := "fnUnwraps", unfollowed := true, recurses := true, apart := false }
def FnUnwrapsSaid : Prop := fnUnwrapsRow.holds Try.pinned (OpenSpec.ofChange fnUnwrapsSpec)

/-- ITS FALSE NEIGHBOUR: 'it returns false'. Refute it at one input. -/
def fnUnwrapsWrong : ChangeSpec := { name := "fnUnwraps", fn := fun _ => fun
  | [d] => { results := [.lit (.bool false)], args := [d] }
  | _ => none }
def FnUnwrapsWrongFalsely : Prop := fnUnwrapsRow.holds Try.pinned (OpenSpec.ofChange fnUnwrapsWrong)

/- THE SECOND FORM. 'bulk': how many values and letters a reading holds, each counted each time it is reached (what is shared counts as often as it is met; a slice's spare places count too). A statement '..UptoSaid' is the law's where the arguments, and the package variables that the reading takes, are together of bulk at most 1048576: NARROWER than '..Said'. Prove '..Said' where nothing that the law and all that it calls make is longer than what came in: it says more and counts as full. Else prove '..UptoSaid'. A law counts once. -/
mutual
def uptoBulk {H : Type} : DataW H → Nat
  | .lit (.string bytes) => bytes.length + 1
  | .lit _ => 1
  | .nil => 1
  | .ptr d => uptoBulk d + 1
  | .slice elems spare => uptoBulkAll elems + uptoBulkAll spare + 1
  | .agg parts => uptoBulkAll parts + 1
  | .iface _ d => uptoBulk d + 1
  | .map entries => uptoBulkEntries entries + 1
  | .held _ => 1
def uptoBulkAll {H : Type} : List (DataW H) → Nat
  | [] => 0
  | d :: r => uptoBulk d + uptoBulkAll r
def uptoBulkEntries {H : Type} : List (Lit × DataW H) → Nat
  | [] => 0
  | x :: r => uptoBulkEntry x + uptoBulkEntries r
def uptoBulkEntry {H : Type} : Lit × DataW H → Nat
  | (.string bytes, d) => bytes.length + uptoBulk d + 1
  | (_, d) => uptoBulk d + 1
 end
def uptoSmall : (H : Type) → List (DataW H) → Bool := fun _ ds => decide (uptoBulkAll ds ≤ 1048576)
def OpenSpec.upto (s : _root_.Go.ChangeSpec) : _root_.Go.OpenSpec := { _root_.Go.OpenSpec.ofChange s with cond := some uptoSmall }

/-- 'laws.FnPhases', WHERE WHAT IT READS IS OF BULK AT MOST 1048576: true; the input reads as it did. -/
def fnPhasesUptoRow : OpenClaim := { program := "ytdcjjibekhcplaa", sum := "5bf3e64bcc9dd22fcacab0ca358964cacca695462a51e288b52003aea69f1bf6", func := "loop.example/g01225/laws.FnPhases", spec := "fnPhases", inPlace := ["math.sqrt"], unfollowed := true, recurses := true, apart := false, narrowed := true }
def FnPhasesUptoSaid : Prop := fnPhasesUptoRow.holds Try.pinned (OpenSpec.upto fnPhasesSpec)

/-- 'laws.FnMasks', WHERE WHAT IT READS IS OF BULK AT MOST 1048576: true; the input reads as it did. -/
def fnMasksUptoRow : OpenClaim := { program := "ytdcjjibekhcplaa", sum := "5bf3e64bcc9dd22fcacab0ca358964cacca695462a51e288b52003aea69f1bf6", func := "loop.example/g01225/laws.FnMasks", spec := "fnMasks", unfollowed := true, recurses := true, apart := false, narrowed := true }
def FnMasksUptoSaid : Prop := fnMasksUptoRow.holds Try.pinned (OpenSpec.upto fnMasksSpec)

/-- 'laws.FnApertures', WHERE WHAT IT READS IS OF BULK AT MOST 1048576: true; the input reads as it did. -/
def fnAperturesUptoRow : OpenClaim := { program := "ytdcjjibekhcplaa", sum := "5bf3e64bcc9dd22fcacab0ca358964cacca695462a51e288b52003aea69f1bf6", func := "loop.example/g01225/laws.FnApertures", spec := "fnApertures", unfollowed := true, recurses := true, apart := false, narrowed := true }
def FnAperturesUptoSaid : Prop := fnAperturesUptoRow.holds Try.pinned (OpenSpec.upto fnAperturesSpec)

/-- 'laws.FnWalshCodes', WHERE WHAT IT READS IS OF BULK AT MOST 1048576: true; the input reads as it did. -/
def fnWalshCodesUptoRow : OpenClaim := { program := "ytdcjjibekhcplaa", sum := "5bf3e64bcc9dd22fcacab0ca358964cacca695462a51e288b52003aea69f1bf6", func := "loop.example/g01225/laws.FnWalshCodes", spec := "fnWalshCodes", unfollowed := true, recurses := true, apart := false, narrowed := true }
def FnWalshCodesUptoSaid : Prop := fnWalshCodesUptoRow.holds Try.pinned (OpenSpec.upto fnWalshCodesSpec)

/-- 'laws.FnUnwraps', WHERE WHAT IT READS IS OF BULK AT MOST 1048576: true; the input reads as it did. -/
def fnUnwrapsUptoRow : OpenClaim := { program := "ytdcjjibekhcplaa", sum := "5bf3e64bcc9dd22fcacab0ca358964cacca695462a51e288b52003aea69f1bf6", func := "loop.example/g01225/laws.FnUnwraps", spec := "fnUnwraps", unfollowed := true, recurses := true, apart := false, narrowed := true }
def FnUnwrapsUptoSaid : Prop := fnUnwrapsUptoRow.holds Try.pinned (OpenSpec.upto fnUnwrapsSpec)

end Rows
end Go.Proofs.Ytdcjjibekhcplaa
