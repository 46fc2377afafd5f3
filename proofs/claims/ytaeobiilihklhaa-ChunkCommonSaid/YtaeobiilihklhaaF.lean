/- What the printed functions of this seat stand on: the print's words, and the program's struct types as Lean types. -/
import Derived.Test.YtaeobiilihklhaaProg
import Derived.Below
import Derived.Deep.Draws
import Derived.Deep.AppendLies
import Derived.Maps.AppendAt
import Derived.OwnWalk
import Derived.Laws.BytesArg
import Derived.Laws.MakeOwn
import Derived.Laws.OwnMore
import Derived.Deep.OwnRows
import Derived.Tactics
import Derived.Lib.ConvBytes
import Derived.Laws.Slices
import Derived.WalkKit
import Derived.KernelRfl
import Derived.RowKit3
import Derived.Deep.LoopGhost
import Derived.Deep.QuietTactic
import Derived.BigQuiet
import Derived.WideLaws
import Derived.Deep.DeepCutAuto
import Derived.Deep.CutBlock
import Derived.Deep.RegionHeld3
import Derived.Laws.Rows
import Derived.Lib.AppendStr
import Derived.ArgAppend
import Derived.Laws.IdiomCopy
import Derived.OrdersHeld
import Derived.Laws.BitsLemmas
import Derived.RowKit
import Derived.Test.YtaeobiilihklhaaWWords
import Derived.Test.YtaeobiilihklhaaWLast
import Derived.Test.YtaeobiilihklhaaWTab
import Derived.Test.YtaeobiilihklhaaWFour
import Derived.Test.YtaeobiilihklhaaWQPut
import Derived.Test.YtaeobiilihklhaaWApart
import Derived.Test.YtaeobiilihklhaaWArr
import Derived.Test.YtaeobiilihklhaaWZeros
import Derived.Test.YtaeobiilihklhaaWFoot
import Derived.Test.YtaeobiilihklhaaWKept
import Derived.Test.YtaeobiilihklhaaWShare
import Derived.Test.YtaeobiilihklhaaWN
import Derived.Test.YtaeobiilihklhaaWFootNe
import Derived.Test.YtaeobiilihklhaaWAt
import Derived.Test.YtaeobiilihklhaaWEqStruct
import Derived.Test.YtaeobiilihklhaaWRepsOne
import Derived.Test.YtaeobiilihklhaaWInv
import Derived.Test.YtaeobiilihklhaaWInvWords
import Derived.Test.YtaeobiilihklhaaWGuard
import Derived.Test.YtaeobiilihklhaaWNEv
import Derived.Test.YtaeobiilihklhaaWMore
namespace Go.Proofs.Ytaeobiilihklhaa.F
open Go.RowKit Go.Proofs.YtaeobiilihklhaaW.PrintWords Go.Proofs.YtaeobiilihklhaaW.PrintLast Go.Proofs.YtaeobiilihklhaaW.PrintMore
attribute [local go_sem] max2_int min2_int max_two min_two max_three min_three max_four min_four   -- for this text's walks alone
set_option linter.unusedVariables false
set_option linter.unusedSimpArgs false



def errW : Option Int → Value
  | none => .nilIface
  | some c => .iface 0 (.int .i64 c)
theorem errW_none : errW none = .nilIface := rfl
theorem errW_some (c : Int) : errW (some c) = .iface 0 (.int .i64 c) := rfl

theorem info3 : (Try.prog.info? 3).map (fun i => (i.zero, i.size, i.bytes)) = some (some (.int .i64 0), 1, 8) := by kernel_rfl
theorem info5 : (Try.prog.info? 5).map (fun i => (i.zero, i.size, i.bytes)) = some (some (.int .u8 0), 1, 1) := by kernel_rfl
theorem info9 : (Try.prog.info? 9).map (fun i => (i.zero, i.size, i.bytes)) = some (some (.string ⟨#[]⟩), 1, 16) := by kernel_rfl
-- the values' own types

end Go.Proofs.Ytaeobiilihklhaa.F
