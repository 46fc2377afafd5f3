/-
  No cell of these rows narrows 'for every input' (looked for: loops, veiled, ifaces, maps, wideKeys, modest, calm, conditions, laid).
  DERIVED. THE GIVEN ROWS OF THIS SEAT. 7 by the template 'for every input the law returns true; each argument reads behind the call as it read before'; 0 by the template 'total and deterministic' (their statements: YtkglpcajjieblaaTotals.lean).
  GIVEN WITH THE SEED: the statements are not yours to turn. If you find one false, say at which input.
  Laid BY PROGRAM, IN A SANDBOX (cutbox-rows.mjs): the forced cells as the released guide's own fill.sh prints them over the translation a5b0f1f1de9c7250… (all of the seat's roots in one cut). By AI agents, Wed Nov 11 2026. No macro, syntax, notation, axiom, sorry.
-/
import Derived.Test.YtkglpcajjieblaaChecked
import GoSem.Claim
import GoSem.ClaimJoined
import GoSem.ClaimMapViews
import Derived.JoinedTies
import Derived.KernelRfl
namespace Go.Proofs.Ytkglpcajjieblaa
/- THE CELL 'sum', in the pinned program and in every row, IS THE sha256 OF THE DUMP (.gsa) THAT YtkglpcajjieblaaProg.lean LOADS. Nothing in Lean hashes anything: it is a label: what it is worth is what the hold of that sum in a sandbox is worth. -/
noncomputable def Try.pinned : Pinned := { name := "ytkglpcajjieblaa", sum := "a5b0f1f1de9c7250eb2773814a5b9aecc3cd8d481c577312bd263d8f4dc34648", checked := Try.checked }
namespace Rows
def none {H : Type} : Left H := { results := [], args := [] }

/-- 'strongroomlaw03.MacSeals': WHATEVER THE INPUT: true; the input reads as it did. -/
def macSealsSpec : ChangeSpec := { name := "macSeals", fn := fun _ => fun
  | [d1, d2] => { results := [.lit (.bool true)], args := [d1, d2] }
  | _ => none }
def macSealsRow : OpenClaim := { program := "ytkglpcajjieblaa", sum := "a5b0f1f1de9c7250eb2773814a5b9aecc3cd8d481c577312bd263d8f4dc34648", func := "strongroom/strongroomlaw03.MacSeals", spec := "macSeals", inPlace := ["math/bits.Add64"], apart := false }
def MacSealsSaid : Prop := macSealsRow.holds Try.pinned (OpenSpec.ofChange macSealsSpec)

/-- ITS FALSE NEIGHBOUR: 'it returns false'. Refute it at one input. -/
def macSealsWrong : ChangeSpec := { name := "macSeals", fn := fun _ => fun
  | [d1, d2] => { results := [.lit (.bool false)], args := [d1, d2] }
  | _ => none }
def MacSealsWrongFalsely : Prop := macSealsRow.holds Try.pinned (OpenSpec.ofChange macSealsWrong)

/-- 'strongroomlaw03.MacDerives': WHATEVER THE INPUT: true; the input reads as it did. -/
def macDerivesSpec : ChangeSpec := { name := "macDerives", fn := fun _ => fun
  | [d1, d2, d3] => { results := [.lit (.bool true)], args := [d1, d2, d3] }
  | _ => none }
def macDerivesRow : OpenClaim := { program := "ytkglpcajjieblaa", sum := "a5b0f1f1de9c7250eb2773814a5b9aecc3cd8d481c577312bd263d8f4dc34648", func := "strongroom/strongroomlaw03.MacDerives", spec := "macDerives", inPlace := ["math/bits.Add64"], apart := false }
def MacDerivesSaid : Prop := macDerivesRow.holds Try.pinned (OpenSpec.ofChange macDerivesSpec)

/-- ITS FALSE NEIGHBOUR: 'it returns false'. Refute it at one input. -/
def macDerivesWrong : ChangeSpec := { name := "macDerives", fn := fun _ => fun
  | [d1, d2, d3] => { results := [.lit (.bool false)], args := [d1, d2, d3] }
  | _ => none }
def MacDerivesWrongFalsely : Prop := macDerivesRow.holds Try.pinned (OpenSpec.ofChange macDerivesWrong)

/-- 'strongroomlaw03.MacBegins': WHATEVER THE INPUT: true; the input reads as it did. -/
def macBeginsSpec : ChangeSpec := { name := "macBegins", fn := fun _ => fun
  | [d1, d2, d3] => { results := [.lit (.bool true)], args := [d1, d2, d3] }
  | _ => none }
def macBeginsRow : OpenClaim := { program := "ytkglpcajjieblaa", sum := "a5b0f1f1de9c7250eb2773814a5b9aecc3cd8d481c577312bd263d8f4dc34648", func := "strongroom/strongroomlaw03.MacBegins", spec := "macBegins", inPlace := ["math/bits.Add64"], apart := false }
def MacBeginsSaid : Prop := macBeginsRow.holds Try.pinned (OpenSpec.ofChange macBeginsSpec)

/-- ITS FALSE NEIGHBOUR: 'it returns false'. Refute it at one input. -/
def macBeginsWrong : ChangeSpec := { name := "macBegins", fn := fun _ => fun
  | [d1, d2, d3] => { results := [.lit (.bool false)], args := [d1, d2, d3] }
  | _ => none }
def MacBeginsWrongFalsely : Prop := macBeginsRow.holds Try.pinned (OpenSpec.ofChange macBeginsWrong)

/-- 'strongroomlaw03.MacChains': WHATEVER THE INPUT: true; the input reads as it did. -/
def macChainsSpec : ChangeSpec := { name := "macChains", fn := fun _ => fun
  | [d1, d2, d3] => { results := [.lit (.bool true)], args := [d1, d2, d3] }
  | _ => none }
def macChainsRow : OpenClaim := { program := "ytkglpcajjieblaa", sum := "a5b0f1f1de9c7250eb2773814a5b9aecc3cd8d481c577312bd263d8f4dc34648", func := "strongroom/strongroomlaw03.MacChains", spec := "macChains", inPlace := ["math/bits.Add64"], recurses := true, apart := false }
def MacChainsSaid : Prop := macChainsRow.holds Try.pinned (OpenSpec.ofChange macChainsSpec)

/-- ITS FALSE NEIGHBOUR: 'it returns false'. Refute it at one input. -/
def macChainsWrong : ChangeSpec := { name := "macChains", fn := fun _ => fun
  | [d1, d2, d3] => { results := [.lit (.bool false)], args := [d1, d2, d3] }
  | _ => none }
def MacChainsWrongFalsely : Prop := macChainsRow.holds Try.pinned (OpenSpec.ofChange macChainsWrong)

/-- 'strongroomlaw03.MacKeys': WHATEVER THE INPUT: true; the input reads as it did. -/
def macKeysSpec : ChangeSpec := { name := "macKeys", fn := fun _ => fun
  | [d1, d2, d3] => { results := [.lit (.bool true)], args := [d1, d2, d3] }
  | _ => none }
def macKeysRow : OpenClaim := { program := "ytkglpcajjieblaa", sum := "a5b0f1f1de9c7250eb2773814a5b9aecc3cd8d481c577312bd263d8f4dc34648", func := "strongroom/strongroomlaw03.MacKeys", spec := "macKeys", inPlace := ["math/bits.Add64"], apart := false }
def MacKeysSaid : Prop := macKeysRow.holds Try.pinned (OpenSpec.ofChange macKeysSpec)

/-- ITS FALSE NEIGHBOUR: 'it returns false'. Refute it at one input. -/
def macKeysWrong : ChangeSpec := { name := "macKeys", fn := fun _ => fun
  | [d1, d2, d3] => { results := [.lit (.bool false)], args := [d1, d2, d3] }
  | _ => none }
def MacKeysWrongFalsely : Prop := macKeysRow.holds Try.pinned (OpenSpec.ofChange macKeysWrong)

/-- 'strongroomlaw03.MacChecks': WHATEVER THE INPUT: true; the input reads as it did. -/
def macChecksSpec : ChangeSpec := { name := "macChecks", fn := fun _ => fun
  | [d1, d2, d3] => { results := [.lit (.bool true)], args := [d1, d2, d3] }
  | _ => none }
def macChecksRow : OpenClaim := { program := "ytkglpcajjieblaa", sum := "a5b0f1f1de9c7250eb2773814a5b9aecc3cd8d481c577312bd263d8f4dc34648", func := "strongroom/strongroomlaw03.MacChecks", spec := "macChecks", inPlace := ["math/bits.Add64"], apart := false }
def MacChecksSaid : Prop := macChecksRow.holds Try.pinned (OpenSpec.ofChange macChecksSpec)

/-- ITS FALSE NEIGHBOUR: 'it returns false'. Refute it at one input. -/
def macChecksWrong : ChangeSpec := { name := "macChecks", fn := fun _ => fun
  | [d1, d2, d3] => { results := [.lit (.bool false)], args := [d1, d2, d3] }
  | _ => none }
def MacChecksWrongFalsely : Prop := macChecksRow.holds Try.pinned (OpenSpec.ofChange macChecksWrong)

/-- 'strongroomlaw03.MacTurned': WHATEVER THE INPUT: true; the input reads as it did. -/
def macTurnedSpec : ChangeSpec := { name := "macTurned", fn := fun _ => fun
  | [d1, d2, d3] => { results := [.lit (.bool true)], args := [d1, d2, d3] }
  | _ => none }
def macTurnedRow : OpenClaim := { program := "ytkglpcajjieblaa", sum := "a5b0f1f1de9c7250eb2773814a5b9aecc3cd8d481c577312bd263d8f4dc34648", func := "strongroom/strongroomlaw03.MacTurned", spec := "macTurned", inPlace := ["math/bits.Add64"], apart := false }
def MacTurnedSaid : Prop := macTurnedRow.holds Try.pinned (OpenSpec.ofChange macTurnedSpec)

/-- ITS FALSE NEIGHBOUR: 'it returns false'. Refute it at one input. -/
def macTurnedWrong : ChangeSpec := { name := "macTurned", fn := fun _ => fun
  | [d1, d2, d3] => { results := [.lit (.bool false)], args := [d1, d2, d3] }
  | _ => none }
def MacTurnedWrongFalsely : Prop := macTurnedRow.holds Try.pinned (OpenSpec.ofChange macTurnedWrong)

/- THE SECOND FORM. 'bulk': how many values and letters a reading holds, each counted each time it is reached (what is shared counts as often as it is met; a slice's spare places count too). A statement '..UptoSaid' is the law's where the arguments, and the package variables that the reading takes, are together of bulk at most 1048576: NARROWER than '..Said'. Prove '..Said' where nothing that the law and all that it calls make is longer than what came in: it says more and counts as full. Else prove '..UptoSaid'. A law counts once. -/
mutual
def uptoBulk {H : Type} : DataW H → Nat
  | .lit (.string bytes) => bytes.length + 1
  | .lit _ => 1
  | .nil => 1
  | .ptr d => uptoBulk d + 1
  | .slice elems spare => uptoBulkAll elems + uptoBulkAll spare + 1
  | .agg parts => uptoBulkAll parts + 1
  | .iface _ d => uptoBulk d + 1
  | .map entries => uptoBulkEntries entries + 1
  | .held _ => 1
def uptoBulkAll {H : Type} : List (DataW H) → Nat
  | [] => 0
  | d :: r => uptoBulk d + uptoBulkAll r
def uptoBulkEntries {H : Type} : List (Lit × DataW H) → Nat
  | [] => 0
  | x :: r => uptoBulkEntry x + uptoBulkEntries r
def uptoBulkEntry {H : Type} : Lit × DataW H → Nat
  | (.string bytes, d) => bytes.length + uptoBulk d + 1
  | (_, d) => uptoBulk d + 1
 end
def uptoSmall : (H : Type) → List (DataW H) → Bool := fun _ ds => decide (uptoBulkAll ds ≤ 1048576)
def OpenSpec.upto (s : _root_.Go.ChangeSpec) : _root_.Go.OpenSpec := { _root_.Go.OpenSpec.ofChange s with cond := some uptoSmall }

/-- 'strongroomlaw03.MacSeals', WHERE WHAT IT READS IS OF BULK AT MOST 1048576: true; the input reads as it did. -/
def macSealsUptoRow : OpenClaim := { program := "ytkglpcajjieblaa", sum := "a5b0f1f1de9c7250eb2773814a5b9aecc3cd8d481c577312bd263d8f4dc34648", func := "strongroom/strongroomlaw03.MacSeals", spec := "macSeals", inPlace := ["math/bits.Add64"], apart := false, narrowed := true }
def MacSealsUptoSaid : Prop := macSealsUptoRow.holds Try.pinned (OpenSpec.upto macSealsSpec)

/-- 'strongroomlaw03.MacDerives', WHERE WHAT IT READS IS OF BULK AT MOST 1048576: true; the input reads as it did. -/
def macDerivesUptoRow : OpenClaim := { program := "ytkglpcajjieblaa", sum := "a5b0f1f1de9c7250eb2773814a5b9aecc3cd8d481c577312bd263d8f4dc34648", func := "strongroom/strongroomlaw03.MacDerives", spec := "macDerives", inPlace := ["math/bits.Add64"], apart := false, narrowed := true }
def MacDerivesUptoSaid : Prop := macDerivesUptoRow.holds Try.pinned (OpenSpec.upto macDerivesSpec)

/-- 'strongroomlaw03.MacBegins', WHERE WHAT IT READS IS OF BULK AT MOST 1048576: true; the input reads as it did. -/
def macBeginsUptoRow : OpenClaim := { program := "ytkglpcajjieblaa", sum := "a5b0f1f1de9c7250eb2773814a5b9aecc3cd8d481c577312bd263d8f4dc34648", func := "strongroom/strongroomlaw03.MacBegins", spec := "macBegins", inPlace := ["math/bits.Add64"], apart := false, narrowed := true }
def MacBeginsUptoSaid : Prop := macBeginsUptoRow.holds Try.pinned (OpenSpec.upto macBeginsSpec)

/-- 'strongroomlaw03.MacChains', WHERE WHAT IT READS IS OF BULK AT MOST 1048576: true; the input reads as it did. -/
def macChainsUptoRow : OpenClaim := { program := "ytkglpcajjieblaa", sum := "a5b0f1f1de9c7250eb2773814a5b9aecc3cd8d481c577312bd263d8f4dc34648", func := "strongroom/strongroomlaw03.MacChains", spec := "macChains", inPlace := ["math/bits.Add64"], recurses := true, apart := false, narrowed := true }
def MacChainsUptoSaid : Prop := macChainsUptoRow.holds Try.pinned (OpenSpec.upto macChainsSpec)

/-- 'strongroomlaw03.MacKeys', WHERE WHAT IT READS IS OF BULK AT MOST 1048576: true; the input reads as it did. -/
def macKeysUptoRow : OpenClaim := { program := "ytkglpcajjieblaa", sum := "a5b0f1f1de9c7250eb2773814a5b9aecc3cd8d481c577312bd263d8f4dc34648", func := "strongroom/strongroomlaw03.MacKeys", spec := "macKeys", inPlace := ["math/bits.Add64"], apart := false, narrowed := true }
def MacKeysUptoSaid : Prop := macKeysUptoRow.holds Try.pinned (OpenSpec.upto macKeysSpec)

/-- 'strongroomlaw03.MacChecks', WHERE WHAT IT READS IS OF BULK AT MOST 1048576: true; the input reads as it did. -/
def macChecksUptoRow : OpenClaim := { program := "ytkglpcajjieblaa", sum := "a5b0f1f1de9c7250eb2773814a5b9aecc3cd8d481c577312bd263d8f4dc34648", func := "strongroom/strongroomlaw03.MacChecks", spec := "macChecks", inPlace := ["math/bits.Add64"], apart := false, narrowed := true }
def MacChecksUptoSaid : Prop := macChecksUptoRow.holds Try.pinned (OpenSpec.upto macChecksSpec)

/-- 'strongroomlaw03.MacTurned', WHERE WHAT IT READS IS OF BULK AT MOST 1048576: true; the input reads as it did. -/
def macTurnedUptoRow : OpenClaim := { program := "ytkglpcajjieblaa", sum := "a5b0f1f1de9c7250eb2773814a5b9aecc3cd8d481c577312bd263d8f4dc34648", func := "strongroom/strongroomlaw03.MacTurned", spec := "macTurned", inPlace := ["math/bits.Add64"], apart := false, narrowed := true }
def MacTurnedUptoSaid : Prop := macTurnedUptoRow.holds Try.pinned (OpenSpec.upto macTurnedSpec)

end Rows
end Go.Proofs.Ytkglpcajjieblaa
