/-
  No cell of these rows narrows 'for every input' (looked for: loops, veiled, ifaces, maps, wideKeys, modest, calm, conditions, laid).
  DERIVED. THE GIVEN ROWS OF THIS SEAT. 5 by the template 'for every input the law returns true; each argument reads behind the call as it read before'; 0 by the template 'total and deterministic' (their statements: YtehbebpemnanoaaTotals.lean).
  GIVEN WITH THE SEED: the statements are not yours to turn. If you find one false, say at which input.
  Laid BY PROGRAM, IN A SANDBOX (cutbox-rows.mjs): the forced cells as the released guide's own fill.sh prints them over the translation 8828ff99961bb71e… (all of the seat's roots in one cut). By AI agents, Wed Nov 11 2026. No macro, syntax, notation, axiom, sorry.
-/
import Derived.Test.YtehbebpemnanoaaChecked
import GoSem.Claim
import GoSem.ClaimJoined
import GoSem.ClaimMapViews
import Derived.JoinedTies
import Derived.KernelRfl
namespace Go.Proofs.Ytehbebpemnanoaa
/- THE CELL 'sum', in the pinned program and in every row, IS THE sha256 OF THE DUMP (.gsa) THAT YtehbebpemnanoaaProg.lean LOADS. Nothing in Lean hashes anything: it is a label: what it is worth is what the hold of that sum in a sandbox is worth. -/
noncomputable def Try.pinned : Pinned := { name := "ytehbebpemnanoaa", sum := "8828ff99961bb71e8a2c26703e0c5922572f4c96e3ed742196d0ef364ef43bcc", checked := Try.checked }
namespace Rows
def none {H : Type} : Left H := { results := [], args := [] }

/-- 'strongroomlaw18.LzJoins': WHATEVER THE INPUT: true; the input reads as it did. -/
def lzJoinsSpec : ChangeSpec := { name := "lzJoins", fn := fun _ => fun
  | [d] => { results := [.lit (.bool true)], args := [d] }
  | _ => none }
def lzJoinsRow : OpenClaim := { program := "ytehbebpemnanoaa", sum := "8828ff99961bb71e8a2c26703e0c5922572f4c96e3ed742196d0ef364ef43bcc", func := "strongroom/strongroomlaw18.LzJoins", spec := "lzJoins", recurses := true, plainKeys := false, apart := false }
def LzJoinsSaid : Prop := lzJoinsRow.holds Try.pinned (OpenSpec.ofChange lzJoinsSpec)

/-- ITS FALSE NEIGHBOUR: 'it returns false'. Refute it at one input. -/
def lzJoinsWrong : ChangeSpec := { name := "lzJoins", fn := fun _ => fun
  | [d] => { results := [.lit (.bool false)], args := [d] }
  | _ => none }
def LzJoinsWrongFalsely : Prop := lzJoinsRow.holds Try.pinned (OpenSpec.ofChange lzJoinsWrong)

/-- 'strongroomlaw18.LzBack': WHATEVER THE INPUT: true; the input reads as it did. -/
def lzBackSpec : ChangeSpec := { name := "lzBack", fn := fun _ => fun
  | [d] => { results := [.lit (.bool true)], args := [d] }
  | _ => none }
def lzBackRow : OpenClaim := { program := "ytehbebpemnanoaa", sum := "8828ff99961bb71e8a2c26703e0c5922572f4c96e3ed742196d0ef364ef43bcc", func := "strongroom/strongroomlaw18.LzBack", spec := "lzBack", unfollowed := true, recurses := true, plainKeys := false, apart := false }
def LzBackSaid : Prop := lzBackRow.holds Try.pinned (OpenSpec.ofChange lzBackSpec)

/-- ITS FALSE NEIGHBOUR: 'it returns false'. Refute it at one input. -/
def lzBackWrong : ChangeSpec := { name := "lzBack", fn := fun _ => fun
  | [d] => { results := [.lit (.bool false)], args := [d] }
  | _ => none }
def LzBackWrongFalsely : Prop := lzBackRow.holds Try.pinned (OpenSpec.ofChange lzBackWrong)

/-- 'strongroomlaw18.LzShort': WHATEVER THE INPUT: true; the input reads as it did. -/
def lzShortSpec : ChangeSpec := { name := "lzShort", fn := fun _ => fun
  | [d1, d2] => { results := [.lit (.bool true)], args := [d1, d2] }
  | _ => none }
def lzShortRow : OpenClaim := { program := "ytehbebpemnanoaa", sum := "8828ff99961bb71e8a2c26703e0c5922572f4c96e3ed742196d0ef364ef43bcc", func := "strongroom/strongroomlaw18.LzShort", spec := "lzShort", unfollowed := true, recurses := true, plainKeys := false, apart := false }
def LzShortSaid : Prop := lzShortRow.holds Try.pinned (OpenSpec.ofChange lzShortSpec)

/-- ITS FALSE NEIGHBOUR: 'it returns false'. Refute it at one input. -/
def lzShortWrong : ChangeSpec := { name := "lzShort", fn := fun _ => fun
  | [d1, d2] => { results := [.lit (.bool false)], args := [d1, d2] }
  | _ => none }
def LzShortWrongFalsely : Prop := lzShortRow.holds Try.pinned (OpenSpec.ofChange lzShortWrong)

/-- 'strongroomlaw18.LzCuts': WHATEVER THE INPUT: true; the input reads as it did. -/
def lzCutsSpec : ChangeSpec := { name := "lzCuts", fn := fun _ => fun
  | [d1, d2, d3] => { results := [.lit (.bool true)], args := [d1, d2, d3] }
  | _ => none }
def lzCutsRow : OpenClaim := { program := "ytehbebpemnanoaa", sum := "8828ff99961bb71e8a2c26703e0c5922572f4c96e3ed742196d0ef364ef43bcc", func := "strongroom/strongroomlaw18.LzCuts", spec := "lzCuts", unfollowed := true, recurses := true, plainKeys := false, apart := false }
def LzCutsSaid : Prop := lzCutsRow.holds Try.pinned (OpenSpec.ofChange lzCutsSpec)

/-- ITS FALSE NEIGHBOUR: 'it returns false'. Refute it at one input. -/
def lzCutsWrong : ChangeSpec := { name := "lzCuts", fn := fun _ => fun
  | [d1, d2, d3] => { results := [.lit (.bool false)], args := [d1, d2, d3] }
  | _ => none }
def LzCutsWrongFalsely : Prop := lzCutsRow.holds Try.pinned (OpenSpec.ofChange lzCutsWrong)

/-- 'strongroomlaw18.LzOwn': WHATEVER THE INPUT: true; the input reads as it did. -/
def lzOwnSpec : ChangeSpec := { name := "lzOwn", fn := fun _ => fun
  | [d] => { results := [.lit (.bool true)], args := [d] }
  | _ => none }
def lzOwnRow : OpenClaim := { program := "ytehbebpemnanoaa", sum := "8828ff99961bb71e8a2c26703e0c5922572f4c96e3ed742196d0ef364ef43bcc", func := "strongroom/strongroomlaw18.LzOwn", spec := "lzOwn", unfollowed := true, recurses := true, plainKeys := false, apart := false }
def LzOwnSaid : Prop := lzOwnRow.holds Try.pinned (OpenSpec.ofChange lzOwnSpec)

/-- ITS FALSE NEIGHBOUR: 'it returns false'. Refute it at one input. -/
def lzOwnWrong : ChangeSpec := { name := "lzOwn", fn := fun _ => fun
  | [d] => { results := [.lit (.bool false)], args := [d] }
  | _ => none }
def LzOwnWrongFalsely : Prop := lzOwnRow.holds Try.pinned (OpenSpec.ofChange lzOwnWrong)

/- THE SECOND FORM. 'bulk': how many values and letters a reading holds, each counted each time it is reached (what is shared counts as often as it is met; a slice's spare places count too). A statement '..UptoSaid' is the law's where the arguments, and the package variables that the reading takes, are together of bulk at most 1048576: NARROWER than '..Said'. Prove '..Said' where nothing that the law and all that it calls make is longer than what came in: it says more and counts as full. Else prove '..UptoSaid'. A law counts once. -/
mutual
def uptoBulk {H : Type} : DataW H → Nat
  | .lit (.string bytes) => bytes.length + 1
  | .lit _ => 1
  | .nil => 1
  | .ptr d => uptoBulk d + 1
  | .slice elems spare => uptoBulkAll elems + uptoBulkAll spare + 1
  | .agg parts => uptoBulkAll parts + 1
  | .iface _ d => uptoBulk d + 1
  | .map entries => uptoBulkEntries entries + 1
  | .held _ => 1
def uptoBulkAll {H : Type} : List (DataW H) → Nat
  | [] => 0
  | d :: r => uptoBulk d + uptoBulkAll r
def uptoBulkEntries {H : Type} : List (Lit × DataW H) → Nat
  | [] => 0
  | x :: r => uptoBulkEntry x + uptoBulkEntries r
def uptoBulkEntry {H : Type} : Lit × DataW H → Nat
  | (.string bytes, d) => bytes.length + uptoBulk d + 1
  | (_, d) => uptoBulk d + 1
 end
def uptoSmall : (H : Type) → List (DataW H) → Bool := fun _ ds => decide (uptoBulkAll ds ≤ 1048576)
def OpenSpec.upto (s : _root_.Go.ChangeSpec) : _root_.Go.OpenSpec := { _root_.Go.OpenSpec.ofChange s with cond := some uptoSmall }

/-- 'strongroomlaw18.LzJoins', WHERE WHAT IT READS IS OF BULK AT MOST 1048576: true; the input reads as it did. -/
def lzJoinsUptoRow : OpenClaim := { program := "ytehbebpemnanoaa", sum := "8828ff99961bb71e8a2c26703e0c5922572f4c96e3ed742196d0ef364ef43bcc", func := "strongroom/strongroomlaw18.LzJoins", spec := "lzJoins", recurses := true, plainKeys := false, apart := false, narrowed := true }
def LzJoinsUptoSaid : Prop := lzJoinsUptoRow.holds Try.pinned (OpenSpec.upto lzJoinsSpec)

/-- 'strongroomlaw18.LzBack', WHERE WHAT IT READS IS OF BULK AT MOST 1048576: true; the input reads as it did. -/
def lzBackUptoRow : OpenClaim := { program := "ytehbebpemnanoaa", sum := "8828ff99961bb71e8a2c26703e0c5922572f4c96e3ed742196d0ef364ef43bcc", func := "strongroom/strongroomlaw18.LzBack", spec := "lzBack", unfollowed := true, recurses := true, plainKeys := false, apart := false, narrowed := true }
def LzBackUptoSaid : Prop := lzBackUptoRow.holds Try.pinned (OpenSpec.upto lzBackSpec)

/-- 'strongroomlaw18.LzShort', WHERE WHAT IT READS IS OF BULK AT MOST 1048576: true; the input reads as it did. -/
def lzShortUptoRow : OpenClaim := { program := "ytehbebpemnanoaa", sum := "8828ff99961bb71e8a2c26703e0c5922572f4c96e3ed742196d0ef364ef43bcc", func := "strongroom/strongroomlaw18.LzShort", spec := "lzShort", unfollowed := true, recurses := true, plainKeys := false, apart := false, narrowed := true }
def LzShortUptoSaid : Prop := lzShortUptoRow.holds Try.pinned (OpenSpec.upto lzShortSpec)

/-- 'strongroomlaw18.LzCuts', WHERE WHAT IT READS IS OF BULK AT MOST 1048576: true; the input reads as it did. -/
def lzCutsUptoRow : OpenClaim := { program := "ytehbebpemnanoaa", sum := "8828ff99961bb71e8a2c26703e0c5922572f4c96e3ed742196d0ef364ef43bcc", func := "strongroom/strongroomlaw18.LzCuts", spec := "lzCuts", unfollowed := true, recurses := true, plainKeys := false, apart := false, narrowed := true }
def LzCutsUptoSaid : Prop := lzCutsUptoRow.holds Try.pinned (OpenSpec.upto lzCutsSpec)

/-- 'strongroomlaw18.LzOwn', WHERE WHAT IT READS IS OF BULK AT MOST 1048576: true; the input reads as it did. -/
def lzOwnUptoRow : OpenClaim := { program := "ytehbebpemnanoaa", sum := "8828ff99961bb71e8a2c26703e0c5922572f4c96e3ed742196d0ef364ef43bcc", func := "strongroom/strongroomlaw18.LzOwn", spec := "lzOwn", unfollowed := true, recurses := true, plainKeys := false, apart := false, narrowed := true }
def LzOwnUptoSaid : Prop := lzOwnUptoRow.holds Try.pinned (OpenSpec.upto lzOwnSpec)

end Rows
end Go.Proofs.Ytehbebpemnanoaa
