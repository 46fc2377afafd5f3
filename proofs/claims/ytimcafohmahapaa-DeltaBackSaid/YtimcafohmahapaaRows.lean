/-
  No cell of these rows narrows 'for every input' (looked for: loops, veiled, ifaces, maps, wideKeys, modest, calm, conditions, laid).
  DERIVED. THE GIVEN ROWS OF THIS SEAT. 5 by the template 'for every input the law returns true; each argument reads behind the call as it read before'; 0 by the template 'total and deterministic' (their statements: YtimcafohmahapaaTotals.lean).
  GIVEN WITH THE SEED: the statements are not yours to turn. If you find one false, say at which input.
  Laid BY PROGRAM, IN A SANDBOX (cutbox-rows.mjs): the forced cells as the released guide's own fill.sh prints them over the translation e6e559998d3dfa84… (all of the seat's roots in one cut). By AI agents, Wed Nov 11 2026. No macro, syntax, notation, axiom, sorry.
-/
import Derived.Test.YtimcafohmahapaaChecked
import GoSem.Claim
import GoSem.ClaimJoined
import GoSem.ClaimMapViews
import Derived.JoinedTies
import Derived.KernelRfl
namespace Go.Proofs.Ytimcafohmahapaa
/- THE CELL 'sum', in the pinned program and in every row, IS THE sha256 OF THE DUMP (.gsa) THAT YtimcafohmahapaaProg.lean LOADS. Nothing in Lean hashes anything: it is a label: what it is worth is what the hold of that sum in a sandbox is worth. -/
noncomputable def Try.pinned : Pinned := { name := "ytimcafohmahapaa", sum := "e6e559998d3dfa84815dcae145b4356d3473ea98a8e0e0292fb2ebd0268913b3", checked := Try.checked }
namespace Rows
def none {H : Type} : Left H := { results := [], args := [] }

/-- 'strongroomlaw11.DeltaCodes': WHATEVER THE INPUT: true; the input reads as it did. -/
def deltaCodesSpec : ChangeSpec := { name := "deltaCodes", fn := fun _ => fun
  | [d1, d2] => { results := [.lit (.bool true)], args := [d1, d2] }
  | _ => none }
def deltaCodesRow : OpenClaim := { program := "ytimcafohmahapaa", sum := "e6e559998d3dfa84815dcae145b4356d3473ea98a8e0e0292fb2ebd0268913b3", func := "strongroom/strongroomlaw11.DeltaCodes", spec := "deltaCodes", inPlace := ["math/bits.Add64"], recurses := true, apart := false }
def DeltaCodesSaid : Prop := deltaCodesRow.holds Try.pinned (OpenSpec.ofChange deltaCodesSpec)

/-- ITS FALSE NEIGHBOUR: 'it returns false'. Refute it at one input. -/
def deltaCodesWrong : ChangeSpec := { name := "deltaCodes", fn := fun _ => fun
  | [d1, d2] => { results := [.lit (.bool false)], args := [d1, d2] }
  | _ => none }
def DeltaCodesWrongFalsely : Prop := deltaCodesRow.holds Try.pinned (OpenSpec.ofChange deltaCodesWrong)

/-- 'strongroomlaw11.DeltaOnce': WHATEVER THE INPUT: true; the input reads as it did. -/
def deltaOnceSpec : ChangeSpec := { name := "deltaOnce", fn := fun _ => fun
  | [d1, d2] => { results := [.lit (.bool true)], args := [d1, d2] }
  | _ => none }
def deltaOnceRow : OpenClaim := { program := "ytimcafohmahapaa", sum := "e6e559998d3dfa84815dcae145b4356d3473ea98a8e0e0292fb2ebd0268913b3", func := "strongroom/strongroomlaw11.DeltaOnce", spec := "deltaOnce", inPlace := ["math/bits.Add64"], apart := false }
def DeltaOnceSaid : Prop := deltaOnceRow.holds Try.pinned (OpenSpec.ofChange deltaOnceSpec)

/-- ITS FALSE NEIGHBOUR: 'it returns false'. Refute it at one input. -/
def deltaOnceWrong : ChangeSpec := { name := "deltaOnce", fn := fun _ => fun
  | [d1, d2] => { results := [.lit (.bool false)], args := [d1, d2] }
  | _ => none }
def DeltaOnceWrongFalsely : Prop := deltaOnceRow.holds Try.pinned (OpenSpec.ofChange deltaOnceWrong)

/-- 'strongroomlaw11.DeltaSame': WHATEVER THE INPUT: true; the input reads as it did. -/
def deltaSameSpec : ChangeSpec := { name := "deltaSame", fn := fun _ => fun
  | [d1, d2, d3] => { results := [.lit (.bool true)], args := [d1, d2, d3] }
  | _ => none }
def deltaSameRow : OpenClaim := { program := "ytimcafohmahapaa", sum := "e6e559998d3dfa84815dcae145b4356d3473ea98a8e0e0292fb2ebd0268913b3", func := "strongroom/strongroomlaw11.DeltaSame", spec := "deltaSame", inPlace := ["math/bits.Add64"], apart := false }
def DeltaSameSaid : Prop := deltaSameRow.holds Try.pinned (OpenSpec.ofChange deltaSameSpec)

/-- ITS FALSE NEIGHBOUR: 'it returns false'. Refute it at one input. -/
def deltaSameWrong : ChangeSpec := { name := "deltaSame", fn := fun _ => fun
  | [d1, d2, d3] => { results := [.lit (.bool false)], args := [d1, d2, d3] }
  | _ => none }
def DeltaSameWrongFalsely : Prop := deltaSameRow.holds Try.pinned (OpenSpec.ofChange deltaSameWrong)

/-- 'strongroomlaw11.DeltaPatches': WHATEVER THE INPUT: true; the input reads as it did. -/
def deltaPatchesSpec : ChangeSpec := { name := "deltaPatches", fn := fun _ => fun
  | [d1, d2, d3] => { results := [.lit (.bool true)], args := [d1, d2, d3] }
  | _ => none }
def deltaPatchesRow : OpenClaim := { program := "ytimcafohmahapaa", sum := "e6e559998d3dfa84815dcae145b4356d3473ea98a8e0e0292fb2ebd0268913b3", func := "strongroom/strongroomlaw11.DeltaPatches", spec := "deltaPatches", inPlace := ["math/bits.Add64"], apart := false }
def DeltaPatchesSaid : Prop := deltaPatchesRow.holds Try.pinned (OpenSpec.ofChange deltaPatchesSpec)

/-- ITS FALSE NEIGHBOUR: 'it returns false'. Refute it at one input. -/
def deltaPatchesWrong : ChangeSpec := { name := "deltaPatches", fn := fun _ => fun
  | [d1, d2, d3] => { results := [.lit (.bool false)], args := [d1, d2, d3] }
  | _ => none }
def DeltaPatchesWrongFalsely : Prop := deltaPatchesRow.holds Try.pinned (OpenSpec.ofChange deltaPatchesWrong)

/-- 'strongroomlaw11.DeltaBack': WHATEVER THE INPUT: true; the input reads as it did. -/
def deltaBackSpec : ChangeSpec := { name := "deltaBack", fn := fun _ => fun
  | [d1, d2, d3] => { results := [.lit (.bool true)], args := [d1, d2, d3] }
  | _ => none }
def deltaBackRow : OpenClaim := { program := "ytimcafohmahapaa", sum := "e6e559998d3dfa84815dcae145b4356d3473ea98a8e0e0292fb2ebd0268913b3", func := "strongroom/strongroomlaw11.DeltaBack", spec := "deltaBack", inPlace := ["math/bits.Add64"], apart := false }
def DeltaBackSaid : Prop := deltaBackRow.holds Try.pinned (OpenSpec.ofChange deltaBackSpec)

/-- ITS FALSE NEIGHBOUR: 'it returns false'. Refute it at one input. -/
def deltaBackWrong : ChangeSpec := { name := "deltaBack", fn := fun _ => fun
  | [d1, d2, d3] => { results := [.lit (.bool false)], args := [d1, d2, d3] }
  | _ => none }
def DeltaBackWrongFalsely : Prop := deltaBackRow.holds Try.pinned (OpenSpec.ofChange deltaBackWrong)

/- THE SECOND FORM. 'bulk': how many values and letters a reading holds, each counted each time it is reached (what is shared counts as often as it is met; a slice's spare places count too). A statement '..UptoSaid' is the law's where the arguments, and the package variables that the reading takes, are together of bulk at most 1048576: NARROWER than '..Said'. Prove '..Said' where nothing that the law and all that it calls make is longer than what came in: it says more and counts as full. Else prove '..UptoSaid'. A law counts once. -/
mutual
def uptoBulk {H : Type} : DataW H → Nat
  | .lit (.string bytes) => bytes.length + 1
  | .lit _ => 1
  | .nil => 1
  | .ptr d => uptoBulk d + 1
  | .slice elems spare => uptoBulkAll elems + uptoBulkAll spare + 1
  | .agg parts => uptoBulkAll parts + 1
  | .iface _ d => uptoBulk d + 1
  | .map entries => uptoBulkEntries entries + 1
  | .held _ => 1
def uptoBulkAll {H : Type} : List (DataW H) → Nat
  | [] => 0
  | d :: r => uptoBulk d + uptoBulkAll r
def uptoBulkEntries {H : Type} : List (Lit × DataW H) → Nat
  | [] => 0
  | x :: r => uptoBulkEntry x + uptoBulkEntries r
def uptoBulkEntry {H : Type} : Lit × DataW H → Nat
  | (.string bytes, d) => bytes.length + uptoBulk d + 1
  | (_, d) => uptoBulk d + 1
 end
def uptoSmall : (H : Type) → List (DataW H) → Bool := fun _ ds => decide (uptoBulkAll ds ≤ 1048576)
def OpenSpec.upto (s : _root_.Go.ChangeSpec) : _root_.Go.OpenSpec := { _root_.Go.OpenSpec.ofChange s with cond := some uptoSmall }

/-- 'strongroomlaw11.DeltaCodes', WHERE WHAT IT READS IS OF BULK AT MOST 1048576: true; the input reads as it did. -/
def deltaCodesUptoRow : OpenClaim := { program := "ytimcafohmahapaa", sum := "e6e559998d3dfa84815dcae145b4356d3473ea98a8e0e0292fb2ebd0268913b3", func := "strongroom/strongroomlaw11.DeltaCodes", spec := "deltaCodes", inPlace := ["math/bits.Add64"], recurses := true, apart := false, narrowed := true }
def DeltaCodesUptoSaid : Prop := deltaCodesUptoRow.holds Try.pinned (OpenSpec.upto deltaCodesSpec)

/-- 'strongroomlaw11.DeltaOnce', WHERE WHAT IT READS IS OF BULK AT MOST 1048576: true; the input reads as it did. -/
def deltaOnceUptoRow : OpenClaim := { program := "ytimcafohmahapaa", sum := "e6e559998d3dfa84815dcae145b4356d3473ea98a8e0e0292fb2ebd0268913b3", func := "strongroom/strongroomlaw11.DeltaOnce", spec := "deltaOnce", inPlace := ["math/bits.Add64"], apart := false, narrowed := true }
def DeltaOnceUptoSaid : Prop := deltaOnceUptoRow.holds Try.pinned (OpenSpec.upto deltaOnceSpec)

/-- 'strongroomlaw11.DeltaSame', WHERE WHAT IT READS IS OF BULK AT MOST 1048576: true; the input reads as it did. -/
def deltaSameUptoRow : OpenClaim := { program := "ytimcafohmahapaa", sum := "e6e559998d3dfa84815dcae145b4356d3473ea98a8e0e0292fb2ebd0268913b3", func := "strongroom/strongroomlaw11.DeltaSame", spec := "deltaSame", inPlace := ["math/bits.Add64"], apart := false, narrowed := true }
def DeltaSameUptoSaid : Prop := deltaSameUptoRow.holds Try.pinned (OpenSpec.upto deltaSameSpec)

/-- 'strongroomlaw11.DeltaPatches', WHERE WHAT IT READS IS OF BULK AT MOST 1048576: true; the input reads as it did. -/
def deltaPatchesUptoRow : OpenClaim := { program := "ytimcafohmahapaa", sum := "e6e559998d3dfa84815dcae145b4356d3473ea98a8e0e0292fb2ebd0268913b3", func := "strongroom/strongroomlaw11.DeltaPatches", spec := "deltaPatches", inPlace := ["math/bits.Add64"], apart := false, narrowed := true }
def DeltaPatchesUptoSaid : Prop := deltaPatchesUptoRow.holds Try.pinned (OpenSpec.upto deltaPatchesSpec)

/-- 'strongroomlaw11.DeltaBack', WHERE WHAT IT READS IS OF BULK AT MOST 1048576: true; the input reads as it did. -/
def deltaBackUptoRow : OpenClaim := { program := "ytimcafohmahapaa", sum := "e6e559998d3dfa84815dcae145b4356d3473ea98a8e0e0292fb2ebd0268913b3", func := "strongroom/strongroomlaw11.DeltaBack", spec := "deltaBack", inPlace := ["math/bits.Add64"], apart := false, narrowed := true }
def DeltaBackUptoSaid : Prop := deltaBackUptoRow.holds Try.pinned (OpenSpec.upto deltaBackSpec)

end Rows
end Go.Proofs.Ytimcafohmahapaa
