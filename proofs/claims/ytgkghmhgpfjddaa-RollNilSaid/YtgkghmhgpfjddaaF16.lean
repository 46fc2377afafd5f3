/- The function 'strongroomref04_Join' of the program as a Lean function of plain data, and that a call of it comes to just that (the text is printed by the kit's print.py, cut out of its file function by function). -/
import Derived.Test.YtgkghmhgpfjddaaF
import Derived.Test.YtgkghmhgpfjddaaF24

namespace Go.Proofs.Ytgkghmhgpfjddaa.F
open Go.RowKit Go.Proofs.YtgkghmhgpfjddaaW.PrintWords Go.Proofs.YtgkghmhgpfjddaaW.PrintLast Go.Proofs.YtgkghmhgpfjddaaW.PrintMore
attribute [local go_sem] max2_int min2_int max_two min_two max_three min_three max_four min_four   -- for this text's walks alone
set_option linter.unusedVariables false
set_option linter.unusedSimpArgs false

/-! ### strongroomref04_Join: function 16 -/
def strongroomref04_Join.f (a0 : Int) (a1 : Int) (a2 : Int) : Option (Int) := (strongroomref04_rest.f (wrap64 ((wrap64 (Int.tmod a0 65536)) + (wrap64 (Int.tmod a1 65536))))).bind fun t167 => ((strongroomref04_rest.f a2).bind fun t168 => ((strongroomref04_rest.f (wrap64 ((((Int.tdiv a0 65536) % 4294967296) + ((Int.tdiv a1 65536) % 4294967296)) + (wrap64 (t168 * (wrap64 (Int.tmod a0 65536))))))).bind fun t169 => (some ((wrap64 (t167 + (wrap64 (65536 * t169)))) % 4294967296))))
set_option maxHeartbeats 8000000 in
set_option maxRecDepth 100000 in
theorem strongroomref04_Join.calls (a0 : Int) (a1 : Int) (a2 : Int) (r : Int) (w : World) (h : strongroomref04_Join.f a0 a1 a2 = some r) :
    Calls Try.prog 16 #[.int .u32 a0, .int .u32 a1, .int .i64 a2] w fun e w' => e = .returned (.int .u32 r) ∧ Drawn0 w w' := by
  have H : ((strongroomref04_rest.f (wrap64 ((wrap64 (Int.tmod a0 65536)) + (wrap64 (Int.tmod a1 65536))))).bind fun t167 => ((strongroomref04_rest.f a2).bind fun t168 => ((strongroomref04_rest.f (wrap64 ((((Int.tdiv a0 65536) % 4294967296) + ((Int.tdiv a1 65536) % 4294967296)) + (wrap64 (t168 * (wrap64 (Int.tmod a0 65536))))))).bind fun t169 => (some ((wrap64 (t167 + (wrap64 (65536 * t169)))) % 4294967296))))) = some r := h
  clear h
  replace H := Option.bind_eq_some_iff.mp H
  obtain ⟨t167, A40, H⟩ := H
  replace H : ((strongroomref04_rest.f a2).bind fun t168 => ((strongroomref04_rest.f (wrap64 ((((Int.tdiv a0 65536) % 4294967296) + ((Int.tdiv a1 65536) % 4294967296)) + (wrap64 (t168 * (wrap64 (Int.tmod a0 65536))))))).bind fun t169 => (some ((wrap64 (t167 + (wrap64 (65536 * t169)))) % 4294967296)))) = some r := H
  have A4 := Aside0.mk A40
  clear A40
  replace H := Option.bind_eq_some_iff.mp H
  obtain ⟨t168, A50, H⟩ := H
  replace H : ((strongroomref04_rest.f (wrap64 ((((Int.tdiv a0 65536) % 4294967296) + ((Int.tdiv a1 65536) % 4294967296)) + (wrap64 (t168 * (wrap64 (Int.tmod a0 65536))))))).bind fun t169 => (some ((wrap64 (t167 + (wrap64 (65536 * t169)))) % 4294967296))) = some r := H
  have A5 := Aside0.mk A50
  clear A50
  replace H := Option.bind_eq_some_iff.mp H
  obtain ⟨t169, A60, H⟩ := H
  replace H : (some ((wrap64 (t167 + (wrap64 (65536 * t169)))) % 4294967296)) = some r := H
  have A6 := Aside0.mk A60
  clear A60
  obtain rfl := Option.some.inj H
  go_enter Try.func16, Try.ntmps16
  go_wp2_with (first | ((with_reducible refine gate_callee (f := 24) rfl ?_); refine goesL_ (some 16) rfl rfl Try.func24 (by kernel_rfl) rfl #[.int .i64 (wrap64 ((wrap64 (Int.tmod a0 65536)) + (wrap64 (Int.tmod a1 65536))))] rfl (by (try simp only [List.map_toArray, List.map_cons, List.map_nil]); first | done | rfl | (simp only [List.length_drop, List.length_take]; rfl)) ?_; (with_reducible refine (strongroomref04_rest.calls (wrap64 ((wrap64 (Int.tmod a0 65536)) + (wrap64 (Int.tmod a1 65536)))) t167 _ A4.out).mono ?_); rintro e w' ⟨rfl, ⟨nd, rfl⟩⟩; refine ⟨_, rfl, ?_⟩) | ((with_reducible refine gate_callee (f := 24) rfl ?_); refine goesL_ (some 25) rfl rfl Try.func24 (by kernel_rfl) rfl #[.int .i64 a2] rfl (by (try simp only [List.map_toArray, List.map_cons, List.map_nil]); first | done | rfl | (simp only [List.length_drop, List.length_take]; rfl)) ?_; (with_reducible refine (strongroomref04_rest.calls a2 t168 _ A5.out).mono ?_); rintro e w' ⟨rfl, ⟨nd, rfl⟩⟩; refine ⟨_, rfl, ?_⟩) | ((with_reducible refine gate_callee (f := 24) rfl ?_); refine goesL_ (some 31) rfl rfl Try.func24 (by kernel_rfl) rfl #[.int .i64 (wrap64 ((((Int.tdiv a0 65536) % 4294967296) + ((Int.tdiv a1 65536) % 4294967296)) + (wrap64 (t168 * (wrap64 (Int.tmod a0 65536))))))] rfl (by (try simp only [List.map_toArray, List.map_cons, List.map_nil]); first | done | rfl | (simp only [List.length_drop, List.length_take]; rfl)) ?_; (with_reducible refine (strongroomref04_rest.calls (wrap64 ((((Int.tdiv a0 65536) % 4294967296) + ((Int.tdiv a1 65536) % 4294967296)) + (wrap64 (t168 * (wrap64 (Int.tmod a0 65536)))))) t169 _ A6.out).mono ?_); rintro e w' ⟨rfl, ⟨nd, rfl⟩⟩; refine ⟨_, rfl, ?_⟩))
  go_ret
  exact ⟨by first | rfl | (simp; done) | (simp [*]; done), by repeat (first | exact Drawn0.refl _ | apply Drawn0.step)⟩

-- NOT PRINTED: function 7 (strongroomlaw04_RollNexts)

-- NOT PRINTED: function 17 (roll_New)

-- NOT PRINTED: function 18 (roll_Window_Clear)

-- NOT PRINTED: function 19 (roll_Window_Put)

end Go.Proofs.Ytgkghmhgpfjddaa.F
