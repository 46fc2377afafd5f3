/-
  No cell of these rows narrows 'for every input' (looked for: loops, veiled, ifaces, maps, wideKeys, modest, calm, conditions, laid).
  DERIVED. THE GIVEN ROWS OF THIS SEAT. 6 by the template 'for every input the law returns true; each argument reads behind the call as it read before'; 0 by the template 'total and deterministic' (their statements: YtaeobiilihklhaaTotals.lean).
  GIVEN WITH THE SEED: the statements are not yours to turn. If you find one false, say at which input.
  Laid BY PROGRAM, IN A SANDBOX (cutbox-rows.mjs): the forced cells as the released guide's own fill.sh prints them over the translation 01554b9aac5236d3… (all of the seat's roots in one cut). By AI agents, Wed Nov 11 2026. No macro, syntax, notation, axiom, sorry.
-/
import Derived.Test.YtaeobiilihklhaaChecked
import GoSem.Claim
import GoSem.ClaimJoined
import GoSem.ClaimMapViews
import Derived.JoinedTies
import Derived.KernelRfl
namespace Go.Proofs.Ytaeobiilihklhaa
/- THE CELL 'sum', in the pinned program and in every row, IS THE sha256 OF THE DUMP (.gsa) THAT YtaeobiilihklhaaProg.lean LOADS. Nothing in Lean hashes anything: it is a label: what it is worth is what the hold of that sum in a sandbox is worth. -/
noncomputable def Try.pinned : Pinned := { name := "ytaeobiilihklhaa", sum := "01554b9aac5236d37a1da0285851a76173e3c35f746ae985ea5921bfae9d6eba", checked := Try.checked }
namespace Rows
def none {H : Type} : Left H := { results := [], args := [] }

/-- 'strongroomlaw17.ChunkCuts': WHATEVER THE INPUT: true; the input reads as it did. -/
def chunkCutsSpec : ChangeSpec := { name := "chunkCuts", fn := fun _ => fun
  | [d1, d2] => { results := [.lit (.bool true)], args := [d1, d2] }
  | _ => none }
def chunkCutsRow : OpenClaim := { program := "ytaeobiilihklhaa", sum := "01554b9aac5236d37a1da0285851a76173e3c35f746ae985ea5921bfae9d6eba", func := "strongroom/strongroomlaw17.ChunkCuts", spec := "chunkCuts", apart := false }
def ChunkCutsSaid : Prop := chunkCutsRow.holds Try.pinned (OpenSpec.ofChange chunkCutsSpec)

/-- ITS FALSE NEIGHBOUR: 'it returns false'. Refute it at one input. -/
def chunkCutsWrong : ChangeSpec := { name := "chunkCuts", fn := fun _ => fun
  | [d1, d2] => { results := [.lit (.bool false)], args := [d1, d2] }
  | _ => none }
def ChunkCutsWrongFalsely : Prop := chunkCutsRow.holds Try.pinned (OpenSpec.ofChange chunkCutsWrong)

/-- 'strongroomlaw17.ChunkWhole': WHATEVER THE INPUT: true; the input reads as it did. -/
def chunkWholeSpec : ChangeSpec := { name := "chunkWhole", fn := fun _ => fun
  | [d1, d2] => { results := [.lit (.bool true)], args := [d1, d2] }
  | _ => none }
def chunkWholeRow : OpenClaim := { program := "ytaeobiilihklhaa", sum := "01554b9aac5236d37a1da0285851a76173e3c35f746ae985ea5921bfae9d6eba", func := "strongroom/strongroomlaw17.ChunkWhole", spec := "chunkWhole", apart := false }
def ChunkWholeSaid : Prop := chunkWholeRow.holds Try.pinned (OpenSpec.ofChange chunkWholeSpec)

/-- ITS FALSE NEIGHBOUR: 'it returns false'. Refute it at one input. -/
def chunkWholeWrong : ChangeSpec := { name := "chunkWhole", fn := fun _ => fun
  | [d1, d2] => { results := [.lit (.bool false)], args := [d1, d2] }
  | _ => none }
def ChunkWholeWrongFalsely : Prop := chunkWholeRow.holds Try.pinned (OpenSpec.ofChange chunkWholeWrong)

/-- 'strongroomlaw17.ChunkFinds': WHATEVER THE INPUT: true; the input reads as it did. -/
def chunkFindsSpec : ChangeSpec := { name := "chunkFinds", fn := fun _ => fun
  | [d1, d2, d3] => { results := [.lit (.bool true)], args := [d1, d2, d3] }
  | _ => none }
def chunkFindsRow : OpenClaim := { program := "ytaeobiilihklhaa", sum := "01554b9aac5236d37a1da0285851a76173e3c35f746ae985ea5921bfae9d6eba", func := "strongroom/strongroomlaw17.ChunkFinds", spec := "chunkFinds", apart := false }
def ChunkFindsSaid : Prop := chunkFindsRow.holds Try.pinned (OpenSpec.ofChange chunkFindsSpec)

/-- ITS FALSE NEIGHBOUR: 'it returns false'. Refute it at one input. -/
def chunkFindsWrong : ChangeSpec := { name := "chunkFinds", fn := fun _ => fun
  | [d1, d2, d3] => { results := [.lit (.bool false)], args := [d1, d2, d3] }
  | _ => none }
def ChunkFindsWrongFalsely : Prop := chunkFindsRow.holds Try.pinned (OpenSpec.ofChange chunkFindsWrong)

/-- 'strongroomlaw17.ChunkPieces': WHATEVER THE INPUT: true; the input reads as it did. -/
def chunkPiecesSpec : ChangeSpec := { name := "chunkPieces", fn := fun _ => fun
  | [d1, d2] => { results := [.lit (.bool true)], args := [d1, d2] }
  | _ => none }
def chunkPiecesRow : OpenClaim := { program := "ytaeobiilihklhaa", sum := "01554b9aac5236d37a1da0285851a76173e3c35f746ae985ea5921bfae9d6eba", func := "strongroom/strongroomlaw17.ChunkPieces", spec := "chunkPieces", apart := false }
def ChunkPiecesSaid : Prop := chunkPiecesRow.holds Try.pinned (OpenSpec.ofChange chunkPiecesSpec)

/-- ITS FALSE NEIGHBOUR: 'it returns false'. Refute it at one input. -/
def chunkPiecesWrong : ChangeSpec := { name := "chunkPieces", fn := fun _ => fun
  | [d1, d2] => { results := [.lit (.bool false)], args := [d1, d2] }
  | _ => none }
def ChunkPiecesWrongFalsely : Prop := chunkPiecesRow.holds Try.pinned (OpenSpec.ofChange chunkPiecesWrong)

/-- 'strongroomlaw17.ChunkMarks': WHATEVER THE INPUT: true; the input reads as it did. -/
def chunkMarksSpec : ChangeSpec := { name := "chunkMarks", fn := fun _ => fun
  | [d1, d2] => { results := [.lit (.bool true)], args := [d1, d2] }
  | _ => none }
def chunkMarksRow : OpenClaim := { program := "ytaeobiilihklhaa", sum := "01554b9aac5236d37a1da0285851a76173e3c35f746ae985ea5921bfae9d6eba", func := "strongroom/strongroomlaw17.ChunkMarks", spec := "chunkMarks", apart := false }
def ChunkMarksSaid : Prop := chunkMarksRow.holds Try.pinned (OpenSpec.ofChange chunkMarksSpec)

/-- ITS FALSE NEIGHBOUR: 'it returns false'. Refute it at one input. -/
def chunkMarksWrong : ChangeSpec := { name := "chunkMarks", fn := fun _ => fun
  | [d1, d2] => { results := [.lit (.bool false)], args := [d1, d2] }
  | _ => none }
def ChunkMarksWrongFalsely : Prop := chunkMarksRow.holds Try.pinned (OpenSpec.ofChange chunkMarksWrong)

/-- 'strongroomlaw17.ChunkCommon': WHATEVER THE INPUT: true; the input reads as it did. -/
def chunkCommonSpec : ChangeSpec := { name := "chunkCommon", fn := fun _ => fun
  | [d1, d2] => { results := [.lit (.bool true)], args := [d1, d2] }
  | _ => none }
def chunkCommonRow : OpenClaim := { program := "ytaeobiilihklhaa", sum := "01554b9aac5236d37a1da0285851a76173e3c35f746ae985ea5921bfae9d6eba", func := "strongroom/strongroomlaw17.ChunkCommon", spec := "chunkCommon", apart := false }
def ChunkCommonSaid : Prop := chunkCommonRow.holds Try.pinned (OpenSpec.ofChange chunkCommonSpec)

/-- ITS FALSE NEIGHBOUR: 'it returns false'. Refute it at one input. -/
def chunkCommonWrong : ChangeSpec := { name := "chunkCommon", fn := fun _ => fun
  | [d1, d2] => { results := [.lit (.bool false)], args := [d1, d2] }
  | _ => none }
def ChunkCommonWrongFalsely : Prop := chunkCommonRow.holds Try.pinned (OpenSpec.ofChange chunkCommonWrong)

/- THE SECOND FORM. 'bulk': how many values and letters a reading holds, each counted each time it is reached (what is shared counts as often as it is met; a slice's spare places count too). A statement '..UptoSaid' is the law's where the arguments, and the package variables that the reading takes, are together of bulk at most 1048576: NARROWER than '..Said'. Prove '..Said' where nothing that the law and all that it calls make is longer than what came in: it says more and counts as full. Else prove '..UptoSaid'. A law counts once. -/
mutual
def uptoBulk {H : Type} : DataW H → Nat
  | .lit (.string bytes) => bytes.length + 1
  | .lit _ => 1
  | .nil => 1
  | .ptr d => uptoBulk d + 1
  | .slice elems spare => uptoBulkAll elems + uptoBulkAll spare + 1
  | .agg parts => uptoBulkAll parts + 1
  | .iface _ d => uptoBulk d + 1
  | .map entries => uptoBulkEntries entries + 1
  | .held _ => 1
def uptoBulkAll {H : Type} : List (DataW H) → Nat
  | [] => 0
  | d :: r => uptoBulk d + uptoBulkAll r
def uptoBulkEntries {H : Type} : List (Lit × DataW H) → Nat
  | [] => 0
  | x :: r => uptoBulkEntry x + uptoBulkEntries r
def uptoBulkEntry {H : Type} : Lit × DataW H → Nat
  | (.string bytes, d) => bytes.length + uptoBulk d + 1
  | (_, d) => uptoBulk d + 1
 end
def uptoSmall : (H : Type) → List (DataW H) → Bool := fun _ ds => decide (uptoBulkAll ds ≤ 1048576)
def OpenSpec.upto (s : _root_.Go.ChangeSpec) : _root_.Go.OpenSpec := { _root_.Go.OpenSpec.ofChange s with cond := some uptoSmall }

/-- 'strongroomlaw17.ChunkCuts', WHERE WHAT IT READS IS OF BULK AT MOST 1048576: true; the input reads as it did. -/
def chunkCutsUptoRow : OpenClaim := { program := "ytaeobiilihklhaa", sum := "01554b9aac5236d37a1da0285851a76173e3c35f746ae985ea5921bfae9d6eba", func := "strongroom/strongroomlaw17.ChunkCuts", spec := "chunkCuts", apart := false, narrowed := true }
def ChunkCutsUptoSaid : Prop := chunkCutsUptoRow.holds Try.pinned (OpenSpec.upto chunkCutsSpec)

/-- 'strongroomlaw17.ChunkWhole', WHERE WHAT IT READS IS OF BULK AT MOST 1048576: true; the input reads as it did. -/
def chunkWholeUptoRow : OpenClaim := { program := "ytaeobiilihklhaa", sum := "01554b9aac5236d37a1da0285851a76173e3c35f746ae985ea5921bfae9d6eba", func := "strongroom/strongroomlaw17.ChunkWhole", spec := "chunkWhole", apart := false, narrowed := true }
def ChunkWholeUptoSaid : Prop := chunkWholeUptoRow.holds Try.pinned (OpenSpec.upto chunkWholeSpec)

/-- 'strongroomlaw17.ChunkFinds', WHERE WHAT IT READS IS OF BULK AT MOST 1048576: true; the input reads as it did. -/
def chunkFindsUptoRow : OpenClaim := { program := "ytaeobiilihklhaa", sum := "01554b9aac5236d37a1da0285851a76173e3c35f746ae985ea5921bfae9d6eba", func := "strongroom/strongroomlaw17.ChunkFinds", spec := "chunkFinds", apart := false, narrowed := true }
def ChunkFindsUptoSaid : Prop := chunkFindsUptoRow.holds Try.pinned (OpenSpec.upto chunkFindsSpec)

/-- 'strongroomlaw17.ChunkPieces', WHERE WHAT IT READS IS OF BULK AT MOST 1048576: true; the input reads as it did. -/
def chunkPiecesUptoRow : OpenClaim := { program := "ytaeobiilihklhaa", sum := "01554b9aac5236d37a1da0285851a76173e3c35f746ae985ea5921bfae9d6eba", func := "strongroom/strongroomlaw17.ChunkPieces", spec := "chunkPieces", apart := false, narrowed := true }
def ChunkPiecesUptoSaid : Prop := chunkPiecesUptoRow.holds Try.pinned (OpenSpec.upto chunkPiecesSpec)

/-- 'strongroomlaw17.ChunkMarks', WHERE WHAT IT READS IS OF BULK AT MOST 1048576: true; the input reads as it did. -/
def chunkMarksUptoRow : OpenClaim := { program := "ytaeobiilihklhaa", sum := "01554b9aac5236d37a1da0285851a76173e3c35f746ae985ea5921bfae9d6eba", func := "strongroom/strongroomlaw17.ChunkMarks", spec := "chunkMarks", apart := false, narrowed := true }
def ChunkMarksUptoSaid : Prop := chunkMarksUptoRow.holds Try.pinned (OpenSpec.upto chunkMarksSpec)

/-- 'strongroomlaw17.ChunkCommon', WHERE WHAT IT READS IS OF BULK AT MOST 1048576: true; the input reads as it did. -/
def chunkCommonUptoRow : OpenClaim := { program := "ytaeobiilihklhaa", sum := "01554b9aac5236d37a1da0285851a76173e3c35f746ae985ea5921bfae9d6eba", func := "strongroom/strongroomlaw17.ChunkCommon", spec := "chunkCommon", apart := false, narrowed := true }
def ChunkCommonUptoSaid : Prop := chunkCommonUptoRow.holds Try.pinned (OpenSpec.upto chunkCommonSpec)

end Rows
end Go.Proofs.Ytaeobiilihklhaa
