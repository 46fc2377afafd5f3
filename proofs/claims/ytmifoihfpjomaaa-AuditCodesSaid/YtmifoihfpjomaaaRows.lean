/-
  No cell of these rows narrows 'for every input' (looked for: loops, veiled, ifaces, maps, wideKeys, modest, calm, conditions, laid).
  DERIVED. THE GIVEN ROWS OF THIS SEAT. 6 by the template 'for every input the law returns true; each argument reads behind the call as it read before'; 0 by the template 'total and deterministic' (their statements: YtmifoihfpjomaaaTotals.lean).
  GIVEN WITH THE SEED: the statements are not yours to turn. If you find one false, say at which input.
  Laid BY PROGRAM, IN A SANDBOX (cutbox-rows.mjs): the forced cells as the released guide's own fill.sh prints them over the translation dba1af3c698e6436… (all of the seat's roots in one cut). By AI agents, Wed Nov 11 2026. No macro, syntax, notation, axiom, sorry.
-/
import Derived.Test.YtmifoihfpjomaaaChecked
import GoSem.Claim
import GoSem.ClaimJoined
import GoSem.ClaimMapViews
import Derived.JoinedTies
import Derived.KernelRfl
namespace Go.Proofs.Ytmifoihfpjomaaa
/- THE CELL 'sum', in the pinned program and in every row, IS THE sha256 OF THE DUMP (.gsa) THAT YtmifoihfpjomaaaProg.lean LOADS. Nothing in Lean hashes anything: it is a label: what it is worth is what the hold of that sum in a sandbox is worth. -/
noncomputable def Try.pinned : Pinned := { name := "ytmifoihfpjomaaa", sum := "dba1af3c698e6436f85bcb31301546a0566472d508ab3d73e9bf8445d8c28091", checked := Try.checked }
namespace Rows
def none {H : Type} : Left H := { results := [], args := [] }

/-- 'strongroomlaw13.AuditMays': WHATEVER THE INPUT: true; the input reads as it did. -/
def auditMaysSpec : ChangeSpec := { name := "auditMays", fn := fun _ => fun
  | [d] => { results := [.lit (.bool true)], args := [d] }
  | _ => none }
def auditMaysRow : OpenClaim := { program := "ytmifoihfpjomaaa", sum := "dba1af3c698e6436f85bcb31301546a0566472d508ab3d73e9bf8445d8c28091", func := "strongroom/strongroomlaw13.AuditMays", spec := "auditMays", inPlace := ["math/bits.Add64"], recurses := true, apart := false }
def AuditMaysSaid : Prop := auditMaysRow.holds Try.pinned (OpenSpec.ofChange auditMaysSpec)

/-- ITS FALSE NEIGHBOUR: 'it returns false'. Refute it at one input. -/
def auditMaysWrong : ChangeSpec := { name := "auditMays", fn := fun _ => fun
  | [d] => { results := [.lit (.bool false)], args := [d] }
  | _ => none }
def AuditMaysWrongFalsely : Prop := auditMaysRow.holds Try.pinned (OpenSpec.ofChange auditMaysWrong)

/-- 'strongroomlaw13.AuditAdds': WHATEVER THE INPUT: true; the input reads as it did. -/
def auditAddsSpec : ChangeSpec := { name := "auditAdds", fn := fun _ => fun
  | [d1, d2] => { results := [.lit (.bool true)], args := [d1, d2] }
  | _ => none }
def auditAddsRow : OpenClaim := { program := "ytmifoihfpjomaaa", sum := "dba1af3c698e6436f85bcb31301546a0566472d508ab3d73e9bf8445d8c28091", func := "strongroom/strongroomlaw13.AuditAdds", spec := "auditAdds", inPlace := ["math/bits.Add64"], recurses := true, apart := false }
def AuditAddsSaid : Prop := auditAddsRow.holds Try.pinned (OpenSpec.ofChange auditAddsSpec)

/-- ITS FALSE NEIGHBOUR: 'it returns false'. Refute it at one input. -/
def auditAddsWrong : ChangeSpec := { name := "auditAdds", fn := fun _ => fun
  | [d1, d2] => { results := [.lit (.bool false)], args := [d1, d2] }
  | _ => none }
def AuditAddsWrongFalsely : Prop := auditAddsRow.holds Try.pinned (OpenSpec.ofChange auditAddsWrong)

/-- 'strongroomlaw13.AuditPlays': WHATEVER THE INPUT: true; the input reads as it did. -/
def auditPlaysSpec : ChangeSpec := { name := "auditPlays", fn := fun _ => fun
  | [d] => { results := [.lit (.bool true)], args := [d] }
  | _ => none }
def auditPlaysRow : OpenClaim := { program := "ytmifoihfpjomaaa", sum := "dba1af3c698e6436f85bcb31301546a0566472d508ab3d73e9bf8445d8c28091", func := "strongroom/strongroomlaw13.AuditPlays", spec := "auditPlays", inPlace := ["math/bits.Add64"], recurses := true, apart := false }
def AuditPlaysSaid : Prop := auditPlaysRow.holds Try.pinned (OpenSpec.ofChange auditPlaysSpec)

/-- ITS FALSE NEIGHBOUR: 'it returns false'. Refute it at one input. -/
def auditPlaysWrong : ChangeSpec := { name := "auditPlays", fn := fun _ => fun
  | [d] => { results := [.lit (.bool false)], args := [d] }
  | _ => none }
def AuditPlaysWrongFalsely : Prop := auditPlaysRow.holds Try.pinned (OpenSpec.ofChange auditPlaysWrong)

/-- 'strongroomlaw13.AuditChains': WHATEVER THE INPUT: true; the input reads as it did. -/
def auditChainsSpec : ChangeSpec := { name := "auditChains", fn := fun _ => fun
  | [d1, d2] => { results := [.lit (.bool true)], args := [d1, d2] }
  | _ => none }
def auditChainsRow : OpenClaim := { program := "ytmifoihfpjomaaa", sum := "dba1af3c698e6436f85bcb31301546a0566472d508ab3d73e9bf8445d8c28091", func := "strongroom/strongroomlaw13.AuditChains", spec := "auditChains", inPlace := ["math/bits.Add64"], recurses := true, apart := false }
def AuditChainsSaid : Prop := auditChainsRow.holds Try.pinned (OpenSpec.ofChange auditChainsSpec)

/-- ITS FALSE NEIGHBOUR: 'it returns false'. Refute it at one input. -/
def auditChainsWrong : ChangeSpec := { name := "auditChains", fn := fun _ => fun
  | [d1, d2] => { results := [.lit (.bool false)], args := [d1, d2] }
  | _ => none }
def AuditChainsWrongFalsely : Prop := auditChainsRow.holds Try.pinned (OpenSpec.ofChange auditChainsWrong)

/-- 'strongroomlaw13.AuditFollows': WHATEVER THE INPUT: true; the input reads as it did. -/
def auditFollowsSpec : ChangeSpec := { name := "auditFollows", fn := fun _ => fun
  | [d1, d2] => { results := [.lit (.bool true)], args := [d1, d2] }
  | _ => none }
def auditFollowsRow : OpenClaim := { program := "ytmifoihfpjomaaa", sum := "dba1af3c698e6436f85bcb31301546a0566472d508ab3d73e9bf8445d8c28091", func := "strongroom/strongroomlaw13.AuditFollows", spec := "auditFollows", inPlace := ["math/bits.Add64"], recurses := true, apart := false }
def AuditFollowsSaid : Prop := auditFollowsRow.holds Try.pinned (OpenSpec.ofChange auditFollowsSpec)

/-- ITS FALSE NEIGHBOUR: 'it returns false'. Refute it at one input. -/
def auditFollowsWrong : ChangeSpec := { name := "auditFollows", fn := fun _ => fun
  | [d1, d2] => { results := [.lit (.bool false)], args := [d1, d2] }
  | _ => none }
def AuditFollowsWrongFalsely : Prop := auditFollowsRow.holds Try.pinned (OpenSpec.ofChange auditFollowsWrong)

/-- 'strongroomlaw13.AuditCodes': WHATEVER THE INPUT: true; the input reads as it did. -/
def auditCodesSpec : ChangeSpec := { name := "auditCodes", fn := fun _ => fun
  | [d1, d2] => { results := [.lit (.bool true)], args := [d1, d2] }
  | _ => none }
def auditCodesRow : OpenClaim := { program := "ytmifoihfpjomaaa", sum := "dba1af3c698e6436f85bcb31301546a0566472d508ab3d73e9bf8445d8c28091", func := "strongroom/strongroomlaw13.AuditCodes", spec := "auditCodes", inPlace := ["math/bits.Add64"], recurses := true, apart := false }
def AuditCodesSaid : Prop := auditCodesRow.holds Try.pinned (OpenSpec.ofChange auditCodesSpec)

/-- ITS FALSE NEIGHBOUR: 'it returns false'. Refute it at one input. -/
def auditCodesWrong : ChangeSpec := { name := "auditCodes", fn := fun _ => fun
  | [d1, d2] => { results := [.lit (.bool false)], args := [d1, d2] }
  | _ => none }
def AuditCodesWrongFalsely : Prop := auditCodesRow.holds Try.pinned (OpenSpec.ofChange auditCodesWrong)

/- THE SECOND FORM. 'bulk': how many values and letters a reading holds, each counted each time it is reached (what is shared counts as often as it is met; a slice's spare places count too). A statement '..UptoSaid' is the law's where the arguments, and the package variables that the reading takes, are together of bulk at most 1048576: NARROWER than '..Said'. Prove '..Said' where nothing that the law and all that it calls make is longer than what came in: it says more and counts as full. Else prove '..UptoSaid'. A law counts once. -/
mutual
def uptoBulk {H : Type} : DataW H → Nat
  | .lit (.string bytes) => bytes.length + 1
  | .lit _ => 1
  | .nil => 1
  | .ptr d => uptoBulk d + 1
  | .slice elems spare => uptoBulkAll elems + uptoBulkAll spare + 1
  | .agg parts => uptoBulkAll parts + 1
  | .iface _ d => uptoBulk d + 1
  | .map entries => uptoBulkEntries entries + 1
  | .held _ => 1
def uptoBulkAll {H : Type} : List (DataW H) → Nat
  | [] => 0
  | d :: r => uptoBulk d + uptoBulkAll r
def uptoBulkEntries {H : Type} : List (Lit × DataW H) → Nat
  | [] => 0
  | x :: r => uptoBulkEntry x + uptoBulkEntries r
def uptoBulkEntry {H : Type} : Lit × DataW H → Nat
  | (.string bytes, d) => bytes.length + uptoBulk d + 1
  | (_, d) => uptoBulk d + 1
 end
def uptoSmall : (H : Type) → List (DataW H) → Bool := fun _ ds => decide (uptoBulkAll ds ≤ 1048576)
def OpenSpec.upto (s : _root_.Go.ChangeSpec) : _root_.Go.OpenSpec := { _root_.Go.OpenSpec.ofChange s with cond := some uptoSmall }

/-- 'strongroomlaw13.AuditMays', WHERE WHAT IT READS IS OF BULK AT MOST 1048576: true; the input reads as it did. -/
def auditMaysUptoRow : OpenClaim := { program := "ytmifoihfpjomaaa", sum := "dba1af3c698e6436f85bcb31301546a0566472d508ab3d73e9bf8445d8c28091", func := "strongroom/strongroomlaw13.AuditMays", spec := "auditMays", inPlace := ["math/bits.Add64"], recurses := true, apart := false, narrowed := true }
def AuditMaysUptoSaid : Prop := auditMaysUptoRow.holds Try.pinned (OpenSpec.upto auditMaysSpec)

/-- 'strongroomlaw13.AuditAdds', WHERE WHAT IT READS IS OF BULK AT MOST 1048576: true; the input reads as it did. -/
def auditAddsUptoRow : OpenClaim := { program := "ytmifoihfpjomaaa", sum := "dba1af3c698e6436f85bcb31301546a0566472d508ab3d73e9bf8445d8c28091", func := "strongroom/strongroomlaw13.AuditAdds", spec := "auditAdds", inPlace := ["math/bits.Add64"], recurses := true, apart := false, narrowed := true }
def AuditAddsUptoSaid : Prop := auditAddsUptoRow.holds Try.pinned (OpenSpec.upto auditAddsSpec)

/-- 'strongroomlaw13.AuditPlays', WHERE WHAT IT READS IS OF BULK AT MOST 1048576: true; the input reads as it did. -/
def auditPlaysUptoRow : OpenClaim := { program := "ytmifoihfpjomaaa", sum := "dba1af3c698e6436f85bcb31301546a0566472d508ab3d73e9bf8445d8c28091", func := "strongroom/strongroomlaw13.AuditPlays", spec := "auditPlays", inPlace := ["math/bits.Add64"], recurses := true, apart := false, narrowed := true }
def AuditPlaysUptoSaid : Prop := auditPlaysUptoRow.holds Try.pinned (OpenSpec.upto auditPlaysSpec)

/-- 'strongroomlaw13.AuditChains', WHERE WHAT IT READS IS OF BULK AT MOST 1048576: true; the input reads as it did. -/
def auditChainsUptoRow : OpenClaim := { program := "ytmifoihfpjomaaa", sum := "dba1af3c698e6436f85bcb31301546a0566472d508ab3d73e9bf8445d8c28091", func := "strongroom/strongroomlaw13.AuditChains", spec := "auditChains", inPlace := ["math/bits.Add64"], recurses := true, apart := false, narrowed := true }
def AuditChainsUptoSaid : Prop := auditChainsUptoRow.holds Try.pinned (OpenSpec.upto auditChainsSpec)

/-- 'strongroomlaw13.AuditFollows', WHERE WHAT IT READS IS OF BULK AT MOST 1048576: true; the input reads as it did. -/
def auditFollowsUptoRow : OpenClaim := { program := "ytmifoihfpjomaaa", sum := "dba1af3c698e6436f85bcb31301546a0566472d508ab3d73e9bf8445d8c28091", func := "strongroom/strongroomlaw13.AuditFollows", spec := "auditFollows", inPlace := ["math/bits.Add64"], recurses := true, apart := false, narrowed := true }
def AuditFollowsUptoSaid : Prop := auditFollowsUptoRow.holds Try.pinned (OpenSpec.upto auditFollowsSpec)

/-- 'strongroomlaw13.AuditCodes', WHERE WHAT IT READS IS OF BULK AT MOST 1048576: true; the input reads as it did. -/
def auditCodesUptoRow : OpenClaim := { program := "ytmifoihfpjomaaa", sum := "dba1af3c698e6436f85bcb31301546a0566472d508ab3d73e9bf8445d8c28091", func := "strongroom/strongroomlaw13.AuditCodes", spec := "auditCodes", inPlace := ["math/bits.Add64"], recurses := true, apart := false, narrowed := true }
def AuditCodesUptoSaid : Prop := auditCodesUptoRow.holds Try.pinned (OpenSpec.upto auditCodesSpec)

end Rows
end Go.Proofs.Ytmifoihfpjomaaa
