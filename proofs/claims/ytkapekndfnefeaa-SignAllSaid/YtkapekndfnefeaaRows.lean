/-
  No cell of these rows narrows 'for every input' (looked for: loops, veiled, ifaces, maps, wideKeys, modest, calm, conditions, laid).
  DERIVED. THE GIVEN ROWS OF THIS SEAT. 6 by the template 'for every input the law returns true; each argument reads behind the call as it read before'; 0 by the template 'total and deterministic' (their statements: YtkapekndfnefeaaTotals.lean).
  GIVEN WITH THE SEED: the statements are not yours to turn. If you find one false, say at which input.
  Laid BY PROGRAM, IN A SANDBOX (cutbox-rows.mjs): the forced cells as the released guide's own fill.sh prints them over the translation ca8e0551d1ee85ed… (all of the seat's roots in one cut). By AI agents, Wed Nov 11 2026. No macro, syntax, notation, axiom, sorry.
-/
import Derived.Test.YtkapekndfnefeaaChecked
import GoSem.Claim
import GoSem.ClaimJoined
import GoSem.ClaimMapViews
import Derived.JoinedTies
import Derived.KernelRfl
namespace Go.Proofs.Ytkapekndfnefeaa
/- THE CELL 'sum', in the pinned program and in every row, IS THE sha256 OF THE DUMP (.gsa) THAT YtkapekndfnefeaaProg.lean LOADS. Nothing in Lean hashes anything: it is a label: what it is worth is what the hold of that sum in a sandbox is worth. -/
noncomputable def Try.pinned : Pinned := { name := "ytkapekndfnefeaa", sum := "ca8e0551d1ee85edabb6e13d793286f6c3d4c6d0214eecef294ea3a492ffa738", checked := Try.checked }
namespace Rows
def none {H : Type} : Left H := { results := [], args := [] }

/-- 'strongroomlaw10.SignOnes': WHATEVER THE INPUT: true; the input reads as it did. -/
def signOnesSpec : ChangeSpec := { name := "signOnes", fn := fun _ => fun
  | [d1, d2] => { results := [.lit (.bool true)], args := [d1, d2] }
  | _ => none }
def signOnesRow : OpenClaim := { program := "ytkapekndfnefeaa", sum := "ca8e0551d1ee85edabb6e13d793286f6c3d4c6d0214eecef294ea3a492ffa738", func := "strongroom/strongroomlaw10.SignOnes", spec := "signOnes", inPlace := ["math/bits.Add64"], apart := false }
def SignOnesSaid : Prop := signOnesRow.holds Try.pinned (OpenSpec.ofChange signOnesSpec)

/-- ITS FALSE NEIGHBOUR: 'it returns false'. Refute it at one input. -/
def signOnesWrong : ChangeSpec := { name := "signOnes", fn := fun _ => fun
  | [d1, d2] => { results := [.lit (.bool false)], args := [d1, d2] }
  | _ => none }
def SignOnesWrongFalsely : Prop := signOnesRow.holds Try.pinned (OpenSpec.ofChange signOnesWrong)

/-- 'strongroomlaw10.SignBlocks': WHATEVER THE INPUT: true; the input reads as it did. -/
def signBlocksSpec : ChangeSpec := { name := "signBlocks", fn := fun _ => fun
  | [d1, d2] => { results := [.lit (.bool true)], args := [d1, d2] }
  | _ => none }
def signBlocksRow : OpenClaim := { program := "ytkapekndfnefeaa", sum := "ca8e0551d1ee85edabb6e13d793286f6c3d4c6d0214eecef294ea3a492ffa738", func := "strongroom/strongroomlaw10.SignBlocks", spec := "signBlocks", inPlace := ["math/bits.Add64"], apart := false }
def SignBlocksSaid : Prop := signBlocksRow.holds Try.pinned (OpenSpec.ofChange signBlocksSpec)

/-- ITS FALSE NEIGHBOUR: 'it returns false'. Refute it at one input. -/
def signBlocksWrong : ChangeSpec := { name := "signBlocks", fn := fun _ => fun
  | [d1, d2] => { results := [.lit (.bool false)], args := [d1, d2] }
  | _ => none }
def SignBlocksWrongFalsely : Prop := signBlocksRow.holds Try.pinned (OpenSpec.ofChange signBlocksWrong)

/-- 'strongroomlaw10.SignAll': WHATEVER THE INPUT: true; the input reads as it did. -/
def signAllSpec : ChangeSpec := { name := "signAll", fn := fun _ => fun
  | [d1, d2, d3] => { results := [.lit (.bool true)], args := [d1, d2, d3] }
  | _ => none }
def signAllRow : OpenClaim := { program := "ytkapekndfnefeaa", sum := "ca8e0551d1ee85edabb6e13d793286f6c3d4c6d0214eecef294ea3a492ffa738", func := "strongroom/strongroomlaw10.SignAll", spec := "signAll", inPlace := ["math/bits.Add64"], apart := false }
def SignAllSaid : Prop := signAllRow.holds Try.pinned (OpenSpec.ofChange signAllSpec)

/-- ITS FALSE NEIGHBOUR: 'it returns false'. Refute it at one input. -/
def signAllWrong : ChangeSpec := { name := "signAll", fn := fun _ => fun
  | [d1, d2, d3] => { results := [.lit (.bool false)], args := [d1, d2, d3] }
  | _ => none }
def SignAllWrongFalsely : Prop := signAllRow.holds Try.pinned (OpenSpec.ofChange signAllWrong)

/-- 'strongroomlaw10.SignFinds': WHATEVER THE INPUT: true; the input reads as it did. -/
def signFindsSpec : ChangeSpec := { name := "signFinds", fn := fun _ => fun
  | [d1, d2] => { results := [.lit (.bool true)], args := [d1, d2] }
  | _ => none }
def signFindsRow : OpenClaim := { program := "ytkapekndfnefeaa", sum := "ca8e0551d1ee85edabb6e13d793286f6c3d4c6d0214eecef294ea3a492ffa738", func := "strongroom/strongroomlaw10.SignFinds", spec := "signFinds", inPlace := ["math/bits.Add64"], apart := false }
def SignFindsSaid : Prop := signFindsRow.holds Try.pinned (OpenSpec.ofChange signFindsSpec)

/-- ITS FALSE NEIGHBOUR: 'it returns false'. Refute it at one input. -/
def signFindsWrong : ChangeSpec := { name := "signFinds", fn := fun _ => fun
  | [d1, d2] => { results := [.lit (.bool false)], args := [d1, d2] }
  | _ => none }
def SignFindsWrongFalsely : Prop := signFindsRow.holds Try.pinned (OpenSpec.ofChange signFindsWrong)

/-- 'strongroomlaw10.SignOwn': WHATEVER THE INPUT: true; the input reads as it did. -/
def signOwnSpec : ChangeSpec := { name := "signOwn", fn := fun _ => fun
  | [d1, d2] => { results := [.lit (.bool true)], args := [d1, d2] }
  | _ => none }
def signOwnRow : OpenClaim := { program := "ytkapekndfnefeaa", sum := "ca8e0551d1ee85edabb6e13d793286f6c3d4c6d0214eecef294ea3a492ffa738", func := "strongroom/strongroomlaw10.SignOwn", spec := "signOwn", inPlace := ["math/bits.Add64"], apart := false }
def SignOwnSaid : Prop := signOwnRow.holds Try.pinned (OpenSpec.ofChange signOwnSpec)

/-- ITS FALSE NEIGHBOUR: 'it returns false'. Refute it at one input. -/
def signOwnWrong : ChangeSpec := { name := "signOwn", fn := fun _ => fun
  | [d1, d2] => { results := [.lit (.bool false)], args := [d1, d2] }
  | _ => none }
def SignOwnWrongFalsely : Prop := signOwnRow.holds Try.pinned (OpenSpec.ofChange signOwnWrong)

/-- 'strongroomlaw10.SignFound': WHATEVER THE INPUT: true; the input reads as it did. -/
def signFoundSpec : ChangeSpec := { name := "signFound", fn := fun _ => fun
  | [d1, d2, d3] => { results := [.lit (.bool true)], args := [d1, d2, d3] }
  | _ => none }
def signFoundRow : OpenClaim := { program := "ytkapekndfnefeaa", sum := "ca8e0551d1ee85edabb6e13d793286f6c3d4c6d0214eecef294ea3a492ffa738", func := "strongroom/strongroomlaw10.SignFound", spec := "signFound", inPlace := ["math/bits.Add64"], apart := false }
def SignFoundSaid : Prop := signFoundRow.holds Try.pinned (OpenSpec.ofChange signFoundSpec)

/-- ITS FALSE NEIGHBOUR: 'it returns false'. Refute it at one input. -/
def signFoundWrong : ChangeSpec := { name := "signFound", fn := fun _ => fun
  | [d1, d2, d3] => { results := [.lit (.bool false)], args := [d1, d2, d3] }
  | _ => none }
def SignFoundWrongFalsely : Prop := signFoundRow.holds Try.pinned (OpenSpec.ofChange signFoundWrong)

/- THE SECOND FORM. 'bulk': how many values and letters a reading holds, each counted each time it is reached (what is shared counts as often as it is met; a slice's spare places count too). A statement '..UptoSaid' is the law's where the arguments, and the package variables that the reading takes, are together of bulk at most 1048576: NARROWER than '..Said'. Prove '..Said' where nothing that the law and all that it calls make is longer than what came in: it says more and counts as full. Else prove '..UptoSaid'. A law counts once. -/
mutual
def uptoBulk {H : Type} : DataW H → Nat
  | .lit (.string bytes) => bytes.length + 1
  | .lit _ => 1
  | .nil => 1
  | .ptr d => uptoBulk d + 1
  | .slice elems spare => uptoBulkAll elems + uptoBulkAll spare + 1
  | .agg parts => uptoBulkAll parts + 1
  | .iface _ d => uptoBulk d + 1
  | .map entries => uptoBulkEntries entries + 1
  | .held _ => 1
def uptoBulkAll {H : Type} : List (DataW H) → Nat
  | [] => 0
  | d :: r => uptoBulk d + uptoBulkAll r
def uptoBulkEntries {H : Type} : List (Lit × DataW H) → Nat
  | [] => 0
  | x :: r => uptoBulkEntry x + uptoBulkEntries r
def uptoBulkEntry {H : Type} : Lit × DataW H → Nat
  | (.string bytes, d) => bytes.length + uptoBulk d + 1
  | (_, d) => uptoBulk d + 1
 end
def uptoSmall : (H : Type) → List (DataW H) → Bool := fun _ ds => decide (uptoBulkAll ds ≤ 1048576)
def OpenSpec.upto (s : _root_.Go.ChangeSpec) : _root_.Go.OpenSpec := { _root_.Go.OpenSpec.ofChange s with cond := some uptoSmall }

/-- 'strongroomlaw10.SignOnes', WHERE WHAT IT READS IS OF BULK AT MOST 1048576: true; the input reads as it did. -/
def signOnesUptoRow : OpenClaim := { program := "ytkapekndfnefeaa", sum := "ca8e0551d1ee85edabb6e13d793286f6c3d4c6d0214eecef294ea3a492ffa738", func := "strongroom/strongroomlaw10.SignOnes", spec := "signOnes", inPlace := ["math/bits.Add64"], apart := false, narrowed := true }
def SignOnesUptoSaid : Prop := signOnesUptoRow.holds Try.pinned (OpenSpec.upto signOnesSpec)

/-- 'strongroomlaw10.SignBlocks', WHERE WHAT IT READS IS OF BULK AT MOST 1048576: true; the input reads as it did. -/
def signBlocksUptoRow : OpenClaim := { program := "ytkapekndfnefeaa", sum := "ca8e0551d1ee85edabb6e13d793286f6c3d4c6d0214eecef294ea3a492ffa738", func := "strongroom/strongroomlaw10.SignBlocks", spec := "signBlocks", inPlace := ["math/bits.Add64"], apart := false, narrowed := true }
def SignBlocksUptoSaid : Prop := signBlocksUptoRow.holds Try.pinned (OpenSpec.upto signBlocksSpec)

/-- 'strongroomlaw10.SignAll', WHERE WHAT IT READS IS OF BULK AT MOST 1048576: true; the input reads as it did. -/
def signAllUptoRow : OpenClaim := { program := "ytkapekndfnefeaa", sum := "ca8e0551d1ee85edabb6e13d793286f6c3d4c6d0214eecef294ea3a492ffa738", func := "strongroom/strongroomlaw10.SignAll", spec := "signAll", inPlace := ["math/bits.Add64"], apart := false, narrowed := true }
def SignAllUptoSaid : Prop := signAllUptoRow.holds Try.pinned (OpenSpec.upto signAllSpec)

/-- 'strongroomlaw10.SignFinds', WHERE WHAT IT READS IS OF BULK AT MOST 1048576: true; the input reads as it did. -/
def signFindsUptoRow : OpenClaim := { program := "ytkapekndfnefeaa", sum := "ca8e0551d1ee85edabb6e13d793286f6c3d4c6d0214eecef294ea3a492ffa738", func := "strongroom/strongroomlaw10.SignFinds", spec := "signFinds", inPlace := ["math/bits.Add64"], apart := false, narrowed := true }
def SignFindsUptoSaid : Prop := signFindsUptoRow.holds Try.pinned (OpenSpec.upto signFindsSpec)

/-- 'strongroomlaw10.SignOwn', WHERE WHAT IT READS IS OF BULK AT MOST 1048576: true; the input reads as it did. -/
def signOwnUptoRow : OpenClaim := { program := "ytkapekndfnefeaa", sum := "ca8e0551d1ee85edabb6e13d793286f6c3d4c6d0214eecef294ea3a492ffa738", func := "strongroom/strongroomlaw10.SignOwn", spec := "signOwn", inPlace := ["math/bits.Add64"], apart := false, narrowed := true }
def SignOwnUptoSaid : Prop := signOwnUptoRow.holds Try.pinned (OpenSpec.upto signOwnSpec)

/-- 'strongroomlaw10.SignFound', WHERE WHAT IT READS IS OF BULK AT MOST 1048576: true; the input reads as it did. -/
def signFoundUptoRow : OpenClaim := { program := "ytkapekndfnefeaa", sum := "ca8e0551d1ee85edabb6e13d793286f6c3d4c6d0214eecef294ea3a492ffa738", func := "strongroom/strongroomlaw10.SignFound", spec := "signFound", inPlace := ["math/bits.Add64"], apart := false, narrowed := true }
def SignFoundUptoSaid : Prop := signFoundUptoRow.holds Try.pinned (OpenSpec.upto signFoundSpec)

end Rows
end Go.Proofs.Ytkapekndfnefeaa
