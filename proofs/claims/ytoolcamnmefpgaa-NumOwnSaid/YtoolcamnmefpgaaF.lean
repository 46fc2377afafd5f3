/- What the printed functions of this seat stand on: the print's words, and the program's struct types as Lean types. -/
import Derived.Test.YtoolcamnmefpgaaProg
import Derived.Below
import Derived.Deep.Draws
import Derived.Deep.AppendLies
import Derived.Maps.AppendAt
import Derived.OwnWalk
import Derived.Laws.BytesArg
import Derived.Laws.MakeOwn
import Derived.Laws.OwnMore
import Derived.Deep.OwnRows
import Derived.Tactics
import Derived.Lib.ConvBytes
import Derived.Laws.Slices
import Derived.WalkKit
import Derived.KernelRfl
import Derived.RowKit3
import Derived.Deep.LoopGhost
import Derived.Deep.QuietTactic
import Derived.BigQuiet
import Derived.WideLaws
import Derived.Deep.DeepCutAuto
import Derived.Deep.CutBlock
import Derived.Deep.RegionHeld3
import Derived.Laws.Rows
import Derived.Lib.AppendStr
import Derived.ArgAppend
import Derived.Laws.IdiomCopy
import Derived.OrdersHeld
import Derived.Laws.BitsLemmas
import Derived.RowKit
import Derived.Test.YtoolcamnmefpgaaWWords
import Derived.Test.YtoolcamnmefpgaaWLast
import Derived.Test.YtoolcamnmefpgaaWTab
import Derived.Test.YtoolcamnmefpgaaWFour
import Derived.Test.YtoolcamnmefpgaaWQPut
import Derived.Test.YtoolcamnmefpgaaWApart
import Derived.Test.YtoolcamnmefpgaaWArr
import Derived.Test.YtoolcamnmefpgaaWZeros
import Derived.Test.YtoolcamnmefpgaaWFoot
import Derived.Test.YtoolcamnmefpgaaWKept
import Derived.Test.YtoolcamnmefpgaaWShare
import Derived.Test.YtoolcamnmefpgaaWN
import Derived.Test.YtoolcamnmefpgaaWFootNe
import Derived.Test.YtoolcamnmefpgaaWAt
import Derived.Test.YtoolcamnmefpgaaWEqStruct
import Derived.Test.YtoolcamnmefpgaaWRepsOne
import Derived.Test.YtoolcamnmefpgaaWInv
import Derived.Test.YtoolcamnmefpgaaWInvWords
import Derived.Test.YtoolcamnmefpgaaWGuard
import Derived.Test.YtoolcamnmefpgaaWNEv
import Derived.Test.YtoolcamnmefpgaaWMore
namespace Go.Proofs.Ytoolcamnmefpgaa.F
open Go.RowKit Go.Proofs.YtoolcamnmefpgaaW.PrintWords Go.Proofs.YtoolcamnmefpgaaW.PrintLast Go.Proofs.YtoolcamnmefpgaaW.PrintMore
attribute [local go_sem] max2_int min2_int max_two min_two max_three min_three max_four min_four   -- for this text's walks alone
set_option linter.unusedVariables false
set_option linter.unusedSimpArgs false



def errW : Option Int → Value
  | none => .nilIface
  | some c => .iface 0 (.int .i64 c)
theorem errW_none : errW none = .nilIface := rfl
theorem errW_some (c : Int) : errW (some c) = .iface 0 (.int .i64 c) := rfl

theorem info5 : (Try.prog.info? 5).map (fun i => (i.zero, i.size, i.bytes)) = some (some (.int .u8 0), 1, 1) := by kernel_rfl
theorem info9 : (Try.prog.info? 9).map (fun i => (i.zero, i.size, i.bytes)) = some (some (.string ⟨#[]⟩), 1, 16) := by kernel_rfl
-- the values' own types

end Go.Proofs.Ytoolcamnmefpgaa.F
