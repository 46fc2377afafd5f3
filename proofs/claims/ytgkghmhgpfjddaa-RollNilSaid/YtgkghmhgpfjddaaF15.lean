/- The function 'strongroomref04_Next' of the program as a Lean function of plain data, and that a call of it comes to just that (the text is printed by the kit's print.py, cut out of its file function by function). -/
import Derived.Test.YtgkghmhgpfjddaaF
import Derived.Test.YtgkghmhgpfjddaaF24

namespace Go.Proofs.Ytgkghmhgpfjddaa.F
open Go.RowKit Go.Proofs.YtgkghmhgpfjddaaW.PrintWords Go.Proofs.YtgkghmhgpfjddaaW.PrintLast Go.Proofs.YtgkghmhgpfjddaaW.PrintMore
attribute [local go_sem] max2_int min2_int max_two min_two max_three min_three max_four min_four   -- for this text's walks alone
set_option linter.unusedVariables false
set_option linter.unusedSimpArgs false

/-! ### strongroomref04_Next: function 15 -/
def strongroomref04_Next.f (a0 : Int) (a1 : Int) (a2 : Int) (a3 : Int) : Option (Int) := (strongroomref04_rest.f (wrap64 ((wrap64 ((wrap64 (Int.tmod a0 65536)) - (wrap64 (a2)))) + (wrap64 (a3))))).bind fun t164 => ((strongroomref04_rest.f a1).bind fun t165 => ((strongroomref04_rest.f (wrap64 ((wrap64 (((Int.tdiv a0 65536) % 4294967296) - (wrap64 (t165 * (wrap64 (a2)))))) + t164))).bind fun t166 => (some ((wrap64 (t164 + (wrap64 (65536 * t166)))) % 4294967296))))
set_option maxHeartbeats 8000000 in
set_option maxRecDepth 100000 in
theorem strongroomref04_Next.calls (a0 : Int) (a1 : Int) (a2 : Int) (a3 : Int) (r : Int) (w : World) (h : strongroomref04_Next.f a0 a1 a2 a3 = some r) :
    Calls Try.prog 15 #[.int .u32 a0, .int .i64 a1, .int .u8 a2, .int .u8 a3] w fun e w' => e = .returned (.int .u32 r) ∧ Drawn0 w w' := by
  have H : ((strongroomref04_rest.f (wrap64 ((wrap64 ((wrap64 (Int.tmod a0 65536)) - (wrap64 (a2)))) + (wrap64 (a3))))).bind fun t164 => ((strongroomref04_rest.f a1).bind fun t165 => ((strongroomref04_rest.f (wrap64 ((wrap64 (((Int.tdiv a0 65536) % 4294967296) - (wrap64 (t165 * (wrap64 (a2)))))) + t164))).bind fun t166 => (some ((wrap64 (t164 + (wrap64 (65536 * t166)))) % 4294967296))))) = some r := h
  clear h
  replace H := Option.bind_eq_some_iff.mp H
  obtain ⟨t164, A50, H⟩ := H
  replace H : ((strongroomref04_rest.f a1).bind fun t165 => ((strongroomref04_rest.f (wrap64 ((wrap64 (((Int.tdiv a0 65536) % 4294967296) - (wrap64 (t165 * (wrap64 (a2)))))) + t164))).bind fun t166 => (some ((wrap64 (t164 + (wrap64 (65536 * t166)))) % 4294967296)))) = some r := H
  have A5 := Aside0.mk A50
  clear A50
  replace H := Option.bind_eq_some_iff.mp H
  obtain ⟨t165, A60, H⟩ := H
  replace H : ((strongroomref04_rest.f (wrap64 ((wrap64 (((Int.tdiv a0 65536) % 4294967296) - (wrap64 (t165 * (wrap64 (a2)))))) + t164))).bind fun t166 => (some ((wrap64 (t164 + (wrap64 (65536 * t166)))) % 4294967296))) = some r := H
  have A6 := Aside0.mk A60
  clear A60
  replace H := Option.bind_eq_some_iff.mp H
  obtain ⟨t166, A70, H⟩ := H
  replace H : (some ((wrap64 (t164 + (wrap64 (65536 * t166)))) % 4294967296)) = some r := H
  have A7 := Aside0.mk A70
  clear A70
  obtain rfl := Option.some.inj H
  go_enter Try.func15, Try.ntmps15
  go_wp2_with (first | ((with_reducible refine gate_callee (f := 24) rfl ?_); refine goesL_ (some 20) rfl rfl Try.func24 (by kernel_rfl) rfl #[.int .i64 (wrap64 ((wrap64 ((wrap64 (Int.tmod a0 65536)) - (wrap64 (a2)))) + (wrap64 (a3))))] rfl (by (try simp only [List.map_toArray, List.map_cons, List.map_nil]); first | done | rfl | (simp only [List.length_drop, List.length_take]; rfl)) ?_; (with_reducible refine (strongroomref04_rest.calls (wrap64 ((wrap64 ((wrap64 (Int.tmod a0 65536)) - (wrap64 (a2)))) + (wrap64 (a3)))) t164 _ A5.out).mono ?_); rintro e w' ⟨rfl, ⟨nd, rfl⟩⟩; refine ⟨_, rfl, ?_⟩) | ((with_reducible refine gate_callee (f := 24) rfl ?_); refine goesL_ (some 25) rfl rfl Try.func24 (by kernel_rfl) rfl #[.int .i64 a1] rfl (by (try simp only [List.map_toArray, List.map_cons, List.map_nil]); first | done | rfl | (simp only [List.length_drop, List.length_take]; rfl)) ?_; (with_reducible refine (strongroomref04_rest.calls a1 t165 _ A6.out).mono ?_); rintro e w' ⟨rfl, ⟨nd, rfl⟩⟩; refine ⟨_, rfl, ?_⟩) | ((with_reducible refine gate_callee (f := 24) rfl ?_); refine goesL_ (some 32) rfl rfl Try.func24 (by kernel_rfl) rfl #[.int .i64 (wrap64 ((wrap64 (((Int.tdiv a0 65536) % 4294967296) - (wrap64 (t165 * (wrap64 (a2)))))) + t164))] rfl (by (try simp only [List.map_toArray, List.map_cons, List.map_nil]); first | done | rfl | (simp only [List.length_drop, List.length_take]; rfl)) ?_; (with_reducible refine (strongroomref04_rest.calls (wrap64 ((wrap64 (((Int.tdiv a0 65536) % 4294967296) - (wrap64 (t165 * (wrap64 (a2)))))) + t164)) t166 _ A7.out).mono ?_); rintro e w' ⟨rfl, ⟨nd, rfl⟩⟩; refine ⟨_, rfl, ?_⟩))
  go_ret
  exact ⟨by first | rfl | (simp; done) | (simp [*]; done), by repeat (first | exact Drawn0.refl _ | apply Drawn0.step)⟩

end Go.Proofs.Ytgkghmhgpfjddaa.F
