/- The function 'roll_make16' of the program as a Lean function of plain data, and that a call of it comes to just that (the text is printed by the kit's print.py, cut out of its file function by function). -/
import Derived.Test.YtaeobiilihklhaaF

namespace Go.Proofs.Ytaeobiilihklhaa.F
open Go.RowKit Go.Proofs.YtaeobiilihklhaaW.PrintWords Go.Proofs.YtaeobiilihklhaaW.PrintLast Go.Proofs.YtaeobiilihklhaaW.PrintMore
attribute [local go_sem] max2_int min2_int max_two min_two max_three min_three max_four min_four   -- for this text's walks alone
set_option linter.unusedVariables false
set_option linter.unusedSimpArgs false

/-! ### roll_make16: function 34 -/
def roll_make16.f (a0 : Int) (a1 : Int) : Option (Int) := some (Go.bits .or .u32 (Go.bits .and .u32 a0 65535) ((a1 * 65536) % 4294967296))
set_option maxHeartbeats 8000000 in
set_option maxRecDepth 100000 in
theorem roll_make16.calls (a0 : Int) (a1 : Int) (r : Int) (w : World) (h : roll_make16.f a0 a1 = some r) :
    Calls Try.prog 34 #[.int .u32 a0, .int .u32 a1] w fun e w' => e = .returned (.int .u32 r) ∧ Drawn0 w w' := by
  have H : (some (Go.bits .or .u32 (Go.bits .and .u32 a0 65535) ((a1 * 65536) % 4294967296))) = some r := h
  clear h
  obtain rfl := Option.some.inj H
  go_enter Try.func34, Try.ntmps34
  go_wp2
  go_ret
  exact ⟨by first | rfl | (simp; done) | (simp [*]; done), by repeat (first | exact Drawn0.refl _ | apply Drawn0.step)⟩

end Go.Proofs.Ytaeobiilihklhaa.F
