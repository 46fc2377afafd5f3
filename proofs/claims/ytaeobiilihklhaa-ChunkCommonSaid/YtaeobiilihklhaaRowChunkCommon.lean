/- The row of the law ChunkCommon: for every input the law's call returns true, whatever memory; no condition. Out of the contract ChunkCommon_c. -/
import Derived.Test.YtaeobiilihklhaaRows
import Derived.Test.YtaeobiilihklhaaChunkCommon
import Derived.WalkKit
import Derived.ProofKit
import Derived.OpenShut
import Derived.ShutString
import Derived.ChangeOld
import Derived.Below
import Derived.SizedLaws
import Derived.Test.YtaeobiilihklhaaWSized
import Derived.Test.YtaeobiilihklhaaOpen
import Derived.Lib.SmallJoins
import Derived.Test.YtaeobiilihklhaaOpenW
namespace Go.Proofs.Ytaeobiilihklhaa.chunkCommon
open Go.ChangeShapes Go.WideShapes Go.ChangeAt Go.RowKit
open Go.ChangeMaps (open_string shut_string)
set_option linter.unusedVariables false
set_option linter.unusedSimpArgs false
theorem own : ownKnob Try.prog.godebug = none := by kernel_rfl
theorem laidOut : laidOutB Try.prog = true := by kernel_rfl
set_option maxRecDepth 100000 in
theorem lifted (os : Os) (started : os.Started) (H : Type) (enc : TypeId × Value → H) :
    ReturnsInHanded {} Try.checked os 8 .any (Rows.chunkCommonSpec.pre6 enc Try.prog Try.f8 Rows.chunkCommonRow.domain false) (Rows.chunkCommonSpec.post enc Try.prog Try.f8 false true false false) := by
  refine returnsInHanded_of_change_sized (C := Try.checked) own started (by kernel_rfl) Try.func8
    (ChangeSpec.witness6 (enc := enc) (C := Try.checked) false ⟨#[], #[.slice none 0 0, .slice none 0 0], []⟩ 8 (by kernel_rfl) (by kernel_rfl) (by kernel_rfl) (by kernel_rfl)) ?_
  intro W base args ds gs before hval0 hW hcnd hsz0 _
  have hsz : (DataW.weightsEach Try.prog (Try.f8.params.toList ++ Rows.chunkCommonSpec.plain.varTypes Try.prog) (ds ++ gs)).all (· ≤ reachBytes) = true := hsz0
  have hval : ∀ (j : Nat) t v, Try.f8.params[j]? = some t → args[j]? = some v → Value.okWide Try.prog W .any base t v := hval0
  have hW' := hW
  obtain ⟨p, q, hA0, hV, rfl, hfz, hnd⟩ := hW
  have hA : DataW.TrodAll enc Try.prog W 0 (fun _ => true) true Try.f8.params.toList args.toList ds p := hA0
  rw [Try.params8] at hA hval hsz
  obtain ⟨v0, vs0, d0, ds0, p0, q0, hargs, rfl, rfl, h0, r0⟩ := trodAll_cons hA
  obtain ⟨v1, vs1, d1, ds1, p1, q1, rfl, rfl, rfl, h1, r1⟩ := trodAll_cons r0
  obtain ⟨rfl, rfl, rfl⟩ := trodAll_nil r1
  obtain rfl : args = #[v0, v1] := by cases args; simp_all
  obtain ⟨rfl, rfl⟩ := trodVars_none hV
  obtain ⟨a0, len0, cap0, rfl⟩ := okWide_slice Try.underlying25 (hval 0 25 v0 rfl rfl)
  have k0 := h0
  have lt0 : ∀ x ∈ p0, x.block < W.heap.size := by obtain ⟨m, hm⟩ := k0; exact DataW.trod_lt m _ _ _ hm
  obtain ⟨x0, ⟨A0, cp0, e0, hc0, hC0⟩, ok0⟩ := Go.Proofs.YtaeobiilihklhaaO.opensW_arg (d := (Go.Proofs.YtaeobiilihklhaaW.PrintWords.Kd.slice 9 Go.Proofs.YtaeobiilihklhaaW.PrintWords.Kd.string)) (Go.Proofs.YtaeobiilihklhaaO.opensW_slice Try.underlying25 (Go.Proofs.YtaeobiilihklhaaO.opensW_string Try.underlying9) (by kernel_rfl)) hsz (j := 0) (t := 25) rfl rfl h0
  obtain ⟨rfl, rfl, rfl⟩ := Value.slice.inj (List.cons.inj e0).1
  obtain ⟨a1, len1, cap1, rfl⟩ := okWide_slice Try.underlying25 (hval 1 25 v1 rfl rfl)
  have k1 := h1
  have lt1 : ∀ x ∈ p1, x.block < W.heap.size := by obtain ⟨m, hm⟩ := k1; exact DataW.trod_lt m _ _ _ hm
  obtain ⟨x1, ⟨A1, cp1, e1, hc1, hC1⟩, ok1⟩ := Go.Proofs.YtaeobiilihklhaaO.opensW_arg (d := (Go.Proofs.YtaeobiilihklhaaW.PrintWords.Kd.slice 9 Go.Proofs.YtaeobiilihklhaaW.PrintWords.Kd.string)) (Go.Proofs.YtaeobiilihklhaaO.opensW_slice Try.underlying25 (Go.Proofs.YtaeobiilihklhaaO.opensW_string Try.underlying9) (by kernel_rfl)) hsz (j := 1) (t := 25) rfl rfl h1
  obtain ⟨rfl, rfl, rfl⟩ := Value.slice.inj (List.cons.inj e1).1
  clear hA0 hval0 hsz0 hsz
  refine (Go.Proofs.YtaeobiilihklhaaR.is_tells (Go.Proofs.Ytaeobiilihklhaa.F.ChunkCommon_c W a0 cap0 x0 a1 cap1 x1 hC0 hc0 ok0 hC1 hc1 ok1)).mono fun e W' ⟨he, bel⟩ => ?_
  subst he
  exact ⟨_, rfl, _, _, _, [], _, [], hW', trodAll_mk1 (shut_bool Try.underlying4 _), (trodAll_cons_mk (Below.trod laidOut (by kernel_rfl) (of_decide_eq_true (by kernel_rfl)) k0 bel lt0) (trodAll_cons_mk (Below.trod laidOut (by kernel_rfl) (of_decide_eq_true (by kernel_rfl)) k1 bel lt1) trodAll_mk0)), rfl, bel.frame _, fun h => by cases h⟩
theorem over : Rows.chunkCommonRow.holds Try.pinned (OpenSpec.ofChange Rows.chunkCommonSpec) :=
  OpenClaim.holds_of_wide 8 Try.f8 rfl rfl rfl rfl rfl rfl rfl ⟨rfl, rfl, rfl, rfl, rfl⟩ rfl rfl rfl rfl rfl (by kernel_rfl) Try.func8 (by kernel_rfl)
    (of_decide_eq_true (by kernel_rfl)) (by unfold Func.isWrapper; first | (rw [if_pos (by decide +kernel)]; kernel_rfl) | (rw [if_neg (by decide +kernel)]; exact ⟨rfl, rfl⟩))
    (fun os started H enc _ => lifted os started H enc)
end Go.Proofs.Ytaeobiilihklhaa.chunkCommon
namespace Go.Proofs.Ytaeobiilihklhaa
/-- The row, under a short name, for the claim. -/
theorem chunkCommon_holds : Rows.ChunkCommonSaid := chunkCommon.over
#print axioms chunkCommon_holds
end Go.Proofs.Ytaeobiilihklhaa