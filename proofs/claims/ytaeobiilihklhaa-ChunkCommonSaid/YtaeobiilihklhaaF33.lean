/- The function 'roll_Join' of the program as a Lean function of plain data, and that a call of it comes to just that (the text is printed by the kit's print.py, cut out of its file function by function). -/
import Derived.Test.YtaeobiilihklhaaF
import Derived.Test.YtaeobiilihklhaaF34

namespace Go.Proofs.Ytaeobiilihklhaa.F
open Go.RowKit Go.Proofs.YtaeobiilihklhaaW.PrintWords Go.Proofs.YtaeobiilihklhaaW.PrintLast Go.Proofs.YtaeobiilihklhaaW.PrintMore
attribute [local go_sem] max2_int min2_int max_two min_two max_three min_three max_four min_four   -- for this text's walks alone
set_option linter.unusedVariables false
set_option linter.unusedSimpArgs false

/-! ### roll_Join: function 33 -/
def roll_Join.f (a0 : Int) (a1 : Int) (a2 : Int) : Option (Int) := (roll_make16.f (((Go.bits .and .u32 a0 65535) + (Go.bits .and .u32 a1 65535)) % 4294967296) (((((a0 / 65536) + (a1 / 65536)) % 4294967296) + ((((a2) % 4294967296) * (Go.bits .and .u32 a0 65535)) % 4294967296)) % 4294967296)).bind fun t102 => (some t102)
set_option maxHeartbeats 8000000 in
set_option maxRecDepth 100000 in
theorem roll_Join.calls (a0 : Int) (a1 : Int) (a2 : Int) (r : Int) (w : World) (h : roll_Join.f a0 a1 a2 = some r) :
    Calls Try.prog 33 #[.int .u32 a0, .int .u32 a1, .int .i64 a2] w fun e w' => e = .returned (.int .u32 r) ∧ Drawn0 w w' := by
  have H : ((roll_make16.f (((Go.bits .and .u32 a0 65535) + (Go.bits .and .u32 a1 65535)) % 4294967296) (((((a0 / 65536) + (a1 / 65536)) % 4294967296) + ((((a2) % 4294967296) * (Go.bits .and .u32 a0 65535)) % 4294967296)) % 4294967296)).bind fun t102 => (some t102)) = some r := h
  clear h
  replace H := Option.bind_eq_some_iff.mp H
  obtain ⟨t102, A40, H⟩ := H
  replace H : (some t102) = some r := H
  have A4 := Aside0.mk A40
  clear A40
  obtain rfl := Option.some.inj H
  go_enter Try.func33, Try.ntmps33
  go_wp2_with (first | ((with_reducible refine gate_callee (f := 34) rfl ?_); refine goesL_ (some 23) rfl rfl Try.func34 (by kernel_rfl) rfl #[.int .u32 (((Go.bits .and .u32 a0 65535) + (Go.bits .and .u32 a1 65535)) % 4294967296), .int .u32 (((((a0 / 65536) + (a1 / 65536)) % 4294967296) + ((((a2) % 4294967296) * (Go.bits .and .u32 a0 65535)) % 4294967296)) % 4294967296)] rfl (by (try simp only [List.map_toArray, List.map_cons, List.map_nil]); first | done | rfl | (simp only [List.length_drop, List.length_take]; rfl)) ?_; (with_reducible refine (roll_make16.calls (((Go.bits .and .u32 a0 65535) + (Go.bits .and .u32 a1 65535)) % 4294967296) (((((a0 / 65536) + (a1 / 65536)) % 4294967296) + ((((a2) % 4294967296) * (Go.bits .and .u32 a0 65535)) % 4294967296)) % 4294967296) t102 _ A4.out).mono ?_); rintro e w' ⟨rfl, ⟨nd, rfl⟩⟩; refine ⟨_, rfl, ?_⟩))
  go_ret
  exact ⟨by first | rfl | (simp; done) | (simp [*]; done), by repeat (first | exact Drawn0.refl _ | apply Drawn0.step)⟩

end Go.Proofs.Ytaeobiilihklhaa.F
