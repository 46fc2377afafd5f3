/-
  No cell of these rows narrows 'for every input' (looked for: loops, veiled, ifaces, maps, wideKeys, modest, calm, conditions, laid).
  DERIVED. THE GIVEN ROWS OF THIS SEAT. 4 by the template 'for every input the law returns true; each argument reads behind the call as it read before'; 0 by the template 'total and deterministic' (their statements: YteaefambkagpbaaTotals.lean).
  GIVEN WITH THE SEED: the statements are not yours to turn. If you find one false, say at which input.
  Laid BY PROGRAM, IN A SANDBOX (cutbox-rows.mjs): the forced cells as the released guide's own fill.sh prints them over the translation eb136f7adb5de0a9… (all of the seat's roots in one cut). By AI agents, Wed Nov 11 2026. No macro, syntax, notation, axiom, sorry.
-/
import Derived.Test.YteaefambkagpbaaChecked
import GoSem.Claim
import GoSem.ClaimJoined
import GoSem.ClaimMapViews
import Derived.JoinedTies
import Derived.KernelRfl
namespace Go.Proofs.Yteaefambkagpbaa
/- THE CELL 'sum', in the pinned program and in every row, IS THE sha256 OF THE DUMP (.gsa) THAT YteaefambkagpbaaProg.lean LOADS. Nothing in Lean hashes anything: it is a label: what it is worth is what the hold of that sum in a sandbox is worth. -/
noncomputable def Try.pinned : Pinned := { name := "yteaefambkagpbaa", sum := "eb136f7adb5de0a913f628c1060e6c696a14f039851deacc6c84953ffc7e1df8", checked := Try.checked }
namespace Rows
def none {H : Type} : Left H := { results := [], args := [] }

/-- 'strongroomlaw26.LinkPackets': WHATEVER THE INPUT: true; the input reads as it did. -/
def linkPacketsSpec : ChangeSpec := { name := "linkPackets", fn := fun _ => fun
  | [d1, d2] => { results := [.lit (.bool true)], args := [d1, d2] }
  | _ => none }
def linkPacketsRow : OpenClaim := { program := "yteaefambkagpbaa", sum := "eb136f7adb5de0a913f628c1060e6c696a14f039851deacc6c84953ffc7e1df8", func := "strongroom/strongroomlaw26.LinkPackets", spec := "linkPackets", recurses := true, apart := false }
def LinkPacketsSaid : Prop := linkPacketsRow.holds Try.pinned (OpenSpec.ofChange linkPacketsSpec)

/-- ITS FALSE NEIGHBOUR: 'it returns false'. Refute it at one input. -/
def linkPacketsWrong : ChangeSpec := { name := "linkPackets", fn := fun _ => fun
  | [d1, d2] => { results := [.lit (.bool false)], args := [d1, d2] }
  | _ => none }
def LinkPacketsWrongFalsely : Prop := linkPacketsRow.holds Try.pinned (OpenSpec.ofChange linkPacketsWrong)

/-- 'strongroomlaw26.LinkOrder': WHATEVER THE INPUT: true; the input reads as it did. -/
def linkOrderSpec : ChangeSpec := { name := "linkOrder", fn := fun _ => fun
  | [d1, d2] => { results := [.lit (.bool true)], args := [d1, d2] }
  | _ => none }
def linkOrderRow : OpenClaim := { program := "yteaefambkagpbaa", sum := "eb136f7adb5de0a913f628c1060e6c696a14f039851deacc6c84953ffc7e1df8", func := "strongroom/strongroomlaw26.LinkOrder", spec := "linkOrder", inPlace := ["internal/abi.NoEscape"], apart := false }
def LinkOrderSaid : Prop := linkOrderRow.holds Try.pinned (OpenSpec.ofChange linkOrderSpec)

/-- ITS FALSE NEIGHBOUR: 'it returns false'. Refute it at one input. -/
def linkOrderWrong : ChangeSpec := { name := "linkOrder", fn := fun _ => fun
  | [d1, d2] => { results := [.lit (.bool false)], args := [d1, d2] }
  | _ => none }
def LinkOrderWrongFalsely : Prop := linkOrderRow.holds Try.pinned (OpenSpec.ofChange linkOrderWrong)

/-- 'strongroomlaw26.LinkEnds': WHATEVER THE INPUT: true; the input reads as it did. -/
def linkEndsSpec : ChangeSpec := { name := "linkEnds", fn := fun _ => fun
  | [d1, d2] => { results := [.lit (.bool true)], args := [d1, d2] }
  | _ => none }
def linkEndsRow : OpenClaim := { program := "yteaefambkagpbaa", sum := "eb136f7adb5de0a913f628c1060e6c696a14f039851deacc6c84953ffc7e1df8", func := "strongroom/strongroomlaw26.LinkEnds", spec := "linkEnds", inPlace := ["internal/abi.NoEscape"], apart := false }
def LinkEndsSaid : Prop := linkEndsRow.holds Try.pinned (OpenSpec.ofChange linkEndsSpec)

/-- ITS FALSE NEIGHBOUR: 'it returns false'. Refute it at one input. -/
def linkEndsWrong : ChangeSpec := { name := "linkEnds", fn := fun _ => fun
  | [d1, d2] => { results := [.lit (.bool false)], args := [d1, d2] }
  | _ => none }
def LinkEndsWrongFalsely : Prop := linkEndsRow.holds Try.pinned (OpenSpec.ofChange linkEndsWrong)

/-- 'strongroomlaw26.LinkNils': WHATEVER THE INPUT: true; the input reads as it did. -/
def linkNilsSpec : ChangeSpec := { name := "linkNils", fn := fun _ => fun
  | [d1, d2] => { results := [.lit (.bool true)], args := [d1, d2] }
  | _ => none }
def linkNilsRow : OpenClaim := { program := "yteaefambkagpbaa", sum := "eb136f7adb5de0a913f628c1060e6c696a14f039851deacc6c84953ffc7e1df8", func := "strongroom/strongroomlaw26.LinkNils", spec := "linkNils", inPlace := ["internal/abi.NoEscape"], apart := false }
def LinkNilsSaid : Prop := linkNilsRow.holds Try.pinned (OpenSpec.ofChange linkNilsSpec)

/-- ITS FALSE NEIGHBOUR: 'it returns false'. Refute it at one input. -/
def linkNilsWrong : ChangeSpec := { name := "linkNils", fn := fun _ => fun
  | [d1, d2] => { results := [.lit (.bool false)], args := [d1, d2] }
  | _ => none }
def LinkNilsWrongFalsely : Prop := linkNilsRow.holds Try.pinned (OpenSpec.ofChange linkNilsWrong)

/- THE SECOND FORM. 'bulk': how many values and letters a reading holds, each counted each time it is reached (what is shared counts as often as it is met; a slice's spare places count too). A statement '..UptoSaid' is the law's where the arguments, and the package variables that the reading takes, are together of bulk at most 1048576: NARROWER than '..Said'. Prove '..Said' where nothing that the law and all that it calls make is longer than what came in: it says more and counts as full. Else prove '..UptoSaid'. A law counts once. -/
mutual
def uptoBulk {H : Type} : DataW H → Nat
  | .lit (.string bytes) => bytes.length + 1
  | .lit _ => 1
  | .nil => 1
  | .ptr d => uptoBulk d + 1
  | .slice elems spare => uptoBulkAll elems + uptoBulkAll spare + 1
  | .agg parts => uptoBulkAll parts + 1
  | .iface _ d => uptoBulk d + 1
  | .map entries => uptoBulkEntries entries + 1
  | .held _ => 1
def uptoBulkAll {H : Type} : List (DataW H) → Nat
  | [] => 0
  | d :: r => uptoBulk d + uptoBulkAll r
def uptoBulkEntries {H : Type} : List (Lit × DataW H) → Nat
  | [] => 0
  | x :: r => uptoBulkEntry x + uptoBulkEntries r
def uptoBulkEntry {H : Type} : Lit × DataW H → Nat
  | (.string bytes, d) => bytes.length + uptoBulk d + 1
  | (_, d) => uptoBulk d + 1
 end
def uptoSmall : (H : Type) → List (DataW H) → Bool := fun _ ds => decide (uptoBulkAll ds ≤ 1048576)
def OpenSpec.upto (s : _root_.Go.ChangeSpec) : _root_.Go.OpenSpec := { _root_.Go.OpenSpec.ofChange s with cond := some uptoSmall }

/-- 'strongroomlaw26.LinkPackets', WHERE WHAT IT READS IS OF BULK AT MOST 1048576: true; the input reads as it did. -/
def linkPacketsUptoRow : OpenClaim := { program := "yteaefambkagpbaa", sum := "eb136f7adb5de0a913f628c1060e6c696a14f039851deacc6c84953ffc7e1df8", func := "strongroom/strongroomlaw26.LinkPackets", spec := "linkPackets", recurses := true, apart := false, narrowed := true }
def LinkPacketsUptoSaid : Prop := linkPacketsUptoRow.holds Try.pinned (OpenSpec.upto linkPacketsSpec)

/-- 'strongroomlaw26.LinkOrder', WHERE WHAT IT READS IS OF BULK AT MOST 1048576: true; the input reads as it did. -/
def linkOrderUptoRow : OpenClaim := { program := "yteaefambkagpbaa", sum := "eb136f7adb5de0a913f628c1060e6c696a14f039851deacc6c84953ffc7e1df8", func := "strongroom/strongroomlaw26.LinkOrder", spec := "linkOrder", inPlace := ["internal/abi.NoEscape"], apart := false, narrowed := true }
def LinkOrderUptoSaid : Prop := linkOrderUptoRow.holds Try.pinned (OpenSpec.upto linkOrderSpec)

/-- 'strongroomlaw26.LinkEnds', WHERE WHAT IT READS IS OF BULK AT MOST 1048576: true; the input reads as it did. -/
def linkEndsUptoRow : OpenClaim := { program := "yteaefambkagpbaa", sum := "eb136f7adb5de0a913f628c1060e6c696a14f039851deacc6c84953ffc7e1df8", func := "strongroom/strongroomlaw26.LinkEnds", spec := "linkEnds", inPlace := ["internal/abi.NoEscape"], apart := false, narrowed := true }
def LinkEndsUptoSaid : Prop := linkEndsUptoRow.holds Try.pinned (OpenSpec.upto linkEndsSpec)

/-- 'strongroomlaw26.LinkNils', WHERE WHAT IT READS IS OF BULK AT MOST 1048576: true; the input reads as it did. -/
def linkNilsUptoRow : OpenClaim := { program := "yteaefambkagpbaa", sum := "eb136f7adb5de0a913f628c1060e6c696a14f039851deacc6c84953ffc7e1df8", func := "strongroom/strongroomlaw26.LinkNils", spec := "linkNils", inPlace := ["internal/abi.NoEscape"], apart := false, narrowed := true }
def LinkNilsUptoSaid : Prop := linkNilsUptoRow.holds Try.pinned (OpenSpec.upto linkNilsSpec)

end Rows
end Go.Proofs.Yteaefambkagpbaa
