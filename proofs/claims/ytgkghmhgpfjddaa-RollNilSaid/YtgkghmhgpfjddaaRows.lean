/-
  No cell of these rows narrows 'for every input' (looked for: loops, veiled, ifaces, maps, wideKeys, modest, calm, conditions, laid).
  DERIVED. THE GIVEN ROWS OF THIS SEAT. 7 by the template 'for every input the law returns true; each argument reads behind the call as it read before'; 0 by the template 'total and deterministic' (their statements: YtgkghmhgpfjddaaTotals.lean).
  GIVEN WITH THE SEED: the statements are not yours to turn. If you find one false, say at which input.
  Laid BY PROGRAM, IN A SANDBOX (cutbox-rows.mjs): the forced cells as the released guide's own fill.sh prints them over the translation 23a32541fd25ac9e… (all of the seat's roots in one cut). By AI agents, Wed Nov 11 2026. No macro, syntax, notation, axiom, sorry.
-/
import Derived.Test.YtgkghmhgpfjddaaChecked
import GoSem.Claim
import GoSem.ClaimJoined
import GoSem.ClaimMapViews
import Derived.JoinedTies
import Derived.KernelRfl
namespace Go.Proofs.Ytgkghmhgpfjddaa
/- THE CELL 'sum', in the pinned program and in every row, IS THE sha256 OF THE DUMP (.gsa) THAT YtgkghmhgpfjddaaProg.lean LOADS. Nothing in Lean hashes anything: it is a label: what it is worth is what the hold of that sum in a sandbox is worth. -/
noncomputable def Try.pinned : Pinned := { name := "ytgkghmhgpfjddaa", sum := "23a32541fd25ac9e278ea522ec199273475aaeadc1d7f7af8c5aeb5ab2683333", checked := Try.checked }
namespace Rows
def none {H : Type} : Left H := { results := [], args := [] }

/-- 'strongroomlaw04.RollSums': WHATEVER THE INPUT: true; the input reads as it did. -/
def rollSumsSpec : ChangeSpec := { name := "rollSums", fn := fun _ => fun
  | [d] => { results := [.lit (.bool true)], args := [d] }
  | _ => none }
def rollSumsRow : OpenClaim := { program := "ytgkghmhgpfjddaa", sum := "23a32541fd25ac9e278ea522ec199273475aaeadc1d7f7af8c5aeb5ab2683333", func := "strongroom/strongroomlaw04.RollSums", spec := "rollSums", apart := false }
def RollSumsSaid : Prop := rollSumsRow.holds Try.pinned (OpenSpec.ofChange rollSumsSpec)

/-- ITS FALSE NEIGHBOUR: 'it returns false'. Refute it at one input. -/
def rollSumsWrong : ChangeSpec := { name := "rollSums", fn := fun _ => fun
  | [d] => { results := [.lit (.bool false)], args := [d] }
  | _ => none }
def RollSumsWrongFalsely : Prop := rollSumsRow.holds Try.pinned (OpenSpec.ofChange rollSumsWrong)

/-- 'strongroomlaw04.RollTurned': WHATEVER THE INPUT: true; the input reads as it did. -/
def rollTurnedSpec : ChangeSpec := { name := "rollTurned", fn := fun _ => fun
  | [d1, d2] => { results := [.lit (.bool true)], args := [d1, d2] }
  | _ => none }
def rollTurnedRow : OpenClaim := { program := "ytgkghmhgpfjddaa", sum := "23a32541fd25ac9e278ea522ec199273475aaeadc1d7f7af8c5aeb5ab2683333", func := "strongroom/strongroomlaw04.RollTurned", spec := "rollTurned", apart := false }
def RollTurnedSaid : Prop := rollTurnedRow.holds Try.pinned (OpenSpec.ofChange rollTurnedSpec)

/-- ITS FALSE NEIGHBOUR: 'it returns false'. Refute it at one input. -/
def rollTurnedWrong : ChangeSpec := { name := "rollTurned", fn := fun _ => fun
  | [d1, d2] => { results := [.lit (.bool false)], args := [d1, d2] }
  | _ => none }
def RollTurnedWrongFalsely : Prop := rollTurnedRow.holds Try.pinned (OpenSpec.ofChange rollTurnedWrong)

/-- 'strongroomlaw04.RollJoins': WHATEVER THE INPUT: true; the input reads as it did. -/
def rollJoinsSpec : ChangeSpec := { name := "rollJoins", fn := fun _ => fun
  | [d1, d2, d3] => { results := [.lit (.bool true)], args := [d1, d2, d3] }
  | _ => none }
def rollJoinsRow : OpenClaim := { program := "ytgkghmhgpfjddaa", sum := "23a32541fd25ac9e278ea522ec199273475aaeadc1d7f7af8c5aeb5ab2683333", func := "strongroom/strongroomlaw04.RollJoins", spec := "rollJoins", apart := false }
def RollJoinsSaid : Prop := rollJoinsRow.holds Try.pinned (OpenSpec.ofChange rollJoinsSpec)

/-- ITS FALSE NEIGHBOUR: 'it returns false'. Refute it at one input. -/
def rollJoinsWrong : ChangeSpec := { name := "rollJoins", fn := fun _ => fun
  | [d1, d2, d3] => { results := [.lit (.bool false)], args := [d1, d2, d3] }
  | _ => none }
def RollJoinsWrongFalsely : Prop := rollJoinsRow.holds Try.pinned (OpenSpec.ofChange rollJoinsWrong)

/-- 'strongroomlaw04.RollOn': WHATEVER THE INPUT: true; the input reads as it did. -/
def rollOnSpec : ChangeSpec := { name := "rollOn", fn := fun _ => fun
  | [d1, d2] => { results := [.lit (.bool true)], args := [d1, d2] }
  | _ => none }
def rollOnRow : OpenClaim := { program := "ytgkghmhgpfjddaa", sum := "23a32541fd25ac9e278ea522ec199273475aaeadc1d7f7af8c5aeb5ab2683333", func := "strongroom/strongroomlaw04.RollOn", spec := "rollOn", apart := false }
def RollOnSaid : Prop := rollOnRow.holds Try.pinned (OpenSpec.ofChange rollOnSpec)

/-- ITS FALSE NEIGHBOUR: 'it returns false'. Refute it at one input. -/
def rollOnWrong : ChangeSpec := { name := "rollOn", fn := fun _ => fun
  | [d1, d2] => { results := [.lit (.bool false)], args := [d1, d2] }
  | _ => none }
def RollOnWrongFalsely : Prop := rollOnRow.holds Try.pinned (OpenSpec.ofChange rollOnWrong)

/-- 'strongroomlaw04.RollNexts': WHATEVER THE INPUT: true; the input reads as it did. -/
def rollNextsSpec : ChangeSpec := { name := "rollNexts", fn := fun _ => fun
  | [d1, d2, d3] => { results := [.lit (.bool true)], args := [d1, d2, d3] }
  | _ => none }
def rollNextsRow : OpenClaim := { program := "ytgkghmhgpfjddaa", sum := "23a32541fd25ac9e278ea522ec199273475aaeadc1d7f7af8c5aeb5ab2683333", func := "strongroom/strongroomlaw04.RollNexts", spec := "rollNexts", apart := false }
def RollNextsSaid : Prop := rollNextsRow.holds Try.pinned (OpenSpec.ofChange rollNextsSpec)

/-- ITS FALSE NEIGHBOUR: 'it returns false'. Refute it at one input. -/
def rollNextsWrong : ChangeSpec := { name := "rollNexts", fn := fun _ => fun
  | [d1, d2, d3] => { results := [.lit (.bool false)], args := [d1, d2, d3] }
  | _ => none }
def RollNextsWrongFalsely : Prop := rollNextsRow.holds Try.pinned (OpenSpec.ofChange rollNextsWrong)

/-- 'strongroomlaw04.RollWindows': WHATEVER THE INPUT: true; the input reads as it did. -/
def rollWindowsSpec : ChangeSpec := { name := "rollWindows", fn := fun _ => fun
  | [d1, d2] => { results := [.lit (.bool true)], args := [d1, d2] }
  | _ => none }
def rollWindowsRow : OpenClaim := { program := "ytgkghmhgpfjddaa", sum := "23a32541fd25ac9e278ea522ec199273475aaeadc1d7f7af8c5aeb5ab2683333", func := "strongroom/strongroomlaw04.RollWindows", spec := "rollWindows", apart := false }
def RollWindowsSaid : Prop := rollWindowsRow.holds Try.pinned (OpenSpec.ofChange rollWindowsSpec)

/-- ITS FALSE NEIGHBOUR: 'it returns false'. Refute it at one input. -/
def rollWindowsWrong : ChangeSpec := { name := "rollWindows", fn := fun _ => fun
  | [d1, d2] => { results := [.lit (.bool false)], args := [d1, d2] }
  | _ => none }
def RollWindowsWrongFalsely : Prop := rollWindowsRow.holds Try.pinned (OpenSpec.ofChange rollWindowsWrong)

/-- 'strongroomlaw04.RollNil': WHATEVER THE INPUT: true; the input reads as it did. -/
def rollNilSpec : ChangeSpec := { name := "rollNil", fn := fun _ => fun
  | [d] => { results := [.lit (.bool true)], args := [d] }
  | _ => none }
def rollNilRow : OpenClaim := { program := "ytgkghmhgpfjddaa", sum := "23a32541fd25ac9e278ea522ec199273475aaeadc1d7f7af8c5aeb5ab2683333", func := "strongroom/strongroomlaw04.RollNil", spec := "rollNil", apart := false }
def RollNilSaid : Prop := rollNilRow.holds Try.pinned (OpenSpec.ofChange rollNilSpec)

/-- ITS FALSE NEIGHBOUR: 'it returns false'. Refute it at one input. -/
def rollNilWrong : ChangeSpec := { name := "rollNil", fn := fun _ => fun
  | [d] => { results := [.lit (.bool false)], args := [d] }
  | _ => none }
def RollNilWrongFalsely : Prop := rollNilRow.holds Try.pinned (OpenSpec.ofChange rollNilWrong)

/- THE SECOND FORM. 'bulk': how many values and letters a reading holds, each counted each time it is reached (what is shared counts as often as it is met; a slice's spare places count too). A statement '..UptoSaid' is the law's where the arguments, and the package variables that the reading takes, are together of bulk at most 1048576: NARROWER than '..Said'. Prove '..Said' where nothing that the law and all that it calls make is longer than what came in: it says more and counts as full. Else prove '..UptoSaid'. A law counts once. -/
mutual
def uptoBulk {H : Type} : DataW H → Nat
  | .lit (.string bytes) => bytes.length + 1
  | .lit _ => 1
  | .nil => 1
  | .ptr d => uptoBulk d + 1
  | .slice elems spare => uptoBulkAll elems + uptoBulkAll spare + 1
  | .agg parts => uptoBulkAll parts + 1
  | .iface _ d => uptoBulk d + 1
  | .map entries => uptoBulkEntries entries + 1
  | .held _ => 1
def uptoBulkAll {H : Type} : List (DataW H) → Nat
  | [] => 0
  | d :: r => uptoBulk d + uptoBulkAll r
def uptoBulkEntries {H : Type} : List (Lit × DataW H) → Nat
  | [] => 0
  | x :: r => uptoBulkEntry x + uptoBulkEntries r
def uptoBulkEntry {H : Type} : Lit × DataW H → Nat
  | (.string bytes, d) => bytes.length + uptoBulk d + 1
  | (_, d) => uptoBulk d + 1
 end
def uptoSmall : (H : Type) → List (DataW H) → Bool := fun _ ds => decide (uptoBulkAll ds ≤ 1048576)
def OpenSpec.upto (s : _root_.Go.ChangeSpec) : _root_.Go.OpenSpec := { _root_.Go.OpenSpec.ofChange s with cond := some uptoSmall }

/-- 'strongroomlaw04.RollSums', WHERE WHAT IT READS IS OF BULK AT MOST 1048576: true; the input reads as it did. -/
def rollSumsUptoRow : OpenClaim := { program := "ytgkghmhgpfjddaa", sum := "23a32541fd25ac9e278ea522ec199273475aaeadc1d7f7af8c5aeb5ab2683333", func := "strongroom/strongroomlaw04.RollSums", spec := "rollSums", apart := false, narrowed := true }
def RollSumsUptoSaid : Prop := rollSumsUptoRow.holds Try.pinned (OpenSpec.upto rollSumsSpec)

/-- 'strongroomlaw04.RollTurned', WHERE WHAT IT READS IS OF BULK AT MOST 1048576: true; the input reads as it did. -/
def rollTurnedUptoRow : OpenClaim := { program := "ytgkghmhgpfjddaa", sum := "23a32541fd25ac9e278ea522ec199273475aaeadc1d7f7af8c5aeb5ab2683333", func := "strongroom/strongroomlaw04.RollTurned", spec := "rollTurned", apart := false, narrowed := true }
def RollTurnedUptoSaid : Prop := rollTurnedUptoRow.holds Try.pinned (OpenSpec.upto rollTurnedSpec)

/-- 'strongroomlaw04.RollJoins', WHERE WHAT IT READS IS OF BULK AT MOST 1048576: true; the input reads as it did. -/
def rollJoinsUptoRow : OpenClaim := { program := "ytgkghmhgpfjddaa", sum := "23a32541fd25ac9e278ea522ec199273475aaeadc1d7f7af8c5aeb5ab2683333", func := "strongroom/strongroomlaw04.RollJoins", spec := "rollJoins", apart := false, narrowed := true }
def RollJoinsUptoSaid : Prop := rollJoinsUptoRow.holds Try.pinned (OpenSpec.upto rollJoinsSpec)

/-- 'strongroomlaw04.RollOn', WHERE WHAT IT READS IS OF BULK AT MOST 1048576: true; the input reads as it did. -/
def rollOnUptoRow : OpenClaim := { program := "ytgkghmhgpfjddaa", sum := "23a32541fd25ac9e278ea522ec199273475aaeadc1d7f7af8c5aeb5ab2683333", func := "strongroom/strongroomlaw04.RollOn", spec := "rollOn", apart := false, narrowed := true }
def RollOnUptoSaid : Prop := rollOnUptoRow.holds Try.pinned (OpenSpec.upto rollOnSpec)

/-- 'strongroomlaw04.RollNexts', WHERE WHAT IT READS IS OF BULK AT MOST 1048576: true; the input reads as it did. -/
def rollNextsUptoRow : OpenClaim := { program := "ytgkghmhgpfjddaa", sum := "23a32541fd25ac9e278ea522ec199273475aaeadc1d7f7af8c5aeb5ab2683333", func := "strongroom/strongroomlaw04.RollNexts", spec := "rollNexts", apart := false, narrowed := true }
def RollNextsUptoSaid : Prop := rollNextsUptoRow.holds Try.pinned (OpenSpec.upto rollNextsSpec)

/-- 'strongroomlaw04.RollWindows', WHERE WHAT IT READS IS OF BULK AT MOST 1048576: true; the input reads as it did. -/
def rollWindowsUptoRow : OpenClaim := { program := "ytgkghmhgpfjddaa", sum := "23a32541fd25ac9e278ea522ec199273475aaeadc1d7f7af8c5aeb5ab2683333", func := "strongroom/strongroomlaw04.RollWindows", spec := "rollWindows", apart := false, narrowed := true }
def RollWindowsUptoSaid : Prop := rollWindowsUptoRow.holds Try.pinned (OpenSpec.upto rollWindowsSpec)

/-- 'strongroomlaw04.RollNil', WHERE WHAT IT READS IS OF BULK AT MOST 1048576: true; the input reads as it did. -/
def rollNilUptoRow : OpenClaim := { program := "ytgkghmhgpfjddaa", sum := "23a32541fd25ac9e278ea522ec199273475aaeadc1d7f7af8c5aeb5ab2683333", func := "strongroom/strongroomlaw04.RollNil", spec := "rollNil", apart := false, narrowed := true }
def RollNilUptoSaid : Prop := rollNilUptoRow.holds Try.pinned (OpenSpec.upto rollNilSpec)

end Rows
end Go.Proofs.Ytgkghmhgpfjddaa
