/- The row of the law ChunkPieces: for every input the law's call returns true, whatever memory; no condition. Out of the contract ChunkPieces_c. -/
import Derived.Test.YtaeobiilihklhaaRows
import Derived.Test.YtaeobiilihklhaaMChunkPiecesB
import Derived.WalkKit
import Derived.ProofKit
import Derived.OpenShut
import Derived.ShutString
import Derived.ChangeOld
import Derived.Below
import Derived.SizedLaws
import Derived.Test.YtaeobiilihklhaaWSized
import Derived.Lib.SmallJoins
namespace Go.Proofs.Ytaeobiilihklhaa.chunkPieces
open Go.ChangeShapes Go.WideShapes Go.ChangeAt Go.RowKit
open Go.ChangeMaps (open_string shut_string)
set_option linter.unusedVariables false
set_option linter.unusedSimpArgs false
theorem own : ownKnob Try.prog.godebug = none := by kernel_rfl
theorem laidOut : laidOutB Try.prog = true := by kernel_rfl
set_option maxRecDepth 100000 in
theorem lifted (os : Os) (started : os.Started) (H : Type) (enc : TypeId × Value → H) :
    ReturnsInHanded {} Try.checked os 6 .any (Rows.chunkPiecesSpec.pre6 enc Try.prog Try.f6 Rows.chunkPiecesRow.domain false) (Rows.chunkPiecesSpec.post enc Try.prog Try.f6 false true false false) := by
  refine returnsInHanded_of_change_sized (C := Try.checked) own started (by kernel_rfl) Try.func6
    (ChangeSpec.witness6 (enc := enc) (C := Try.checked) false ⟨#[], #[.slice none 0 0, .agg #[.int .i64 0, .int .i64 0, .int .i64 0]], []⟩ 8 (by kernel_rfl) (by kernel_rfl) (by kernel_rfl) (by kernel_rfl)) ?_
  intro W base args ds gs before hval0 hW hcnd hsz0 _
  have hsz : (DataW.weightsEach Try.prog (Try.f6.params.toList ++ Rows.chunkPiecesSpec.plain.varTypes Try.prog) (ds ++ gs)).all (· ≤ reachBytes) = true := hsz0
  have hval : ∀ (j : Nat) t v, Try.f6.params[j]? = some t → args[j]? = some v → Value.okWide Try.prog W .any base t v := hval0
  have hW' := hW
  obtain ⟨p, q, hA0, hV, rfl, hfz, hnd⟩ := hW
  have hA : DataW.TrodAll enc Try.prog W 0 (fun _ => true) true Try.f6.params.toList args.toList ds p := hA0
  rw [Try.params6] at hA hval hsz
  obtain ⟨v0, vs0, d0, ds0, p0, q0, hargs, rfl, rfl, h0, r0⟩ := trodAll_cons hA
  obtain ⟨v1, vs1, d1, ds1, p1, q1, rfl, rfl, rfl, h1, r1⟩ := trodAll_cons r0
  obtain ⟨rfl, rfl, rfl⟩ := trodAll_nil r1
  obtain rfl : args = #[v0, v1] := by cases args; simp_all
  obtain ⟨rfl, rfl⟩ := trodVars_none hV
  obtain ⟨a0, len0, cap0, rfl⟩ := okWide_slice Try.underlying41 (hval 0 41 v0 rfl rfl)
  have k0 := h0
  have lt0 : ∀ x ∈ p0, x.block < W.heap.size := by obtain ⟨m, hm⟩ := k0; exact DataW.trod_lt m _ _ _ hm
  obtain ⟨x0, ⟨A0, cp0, e0, hc0, hC0⟩, ok0⟩ := Go.Proofs.YtaeobiilihklhaaO.opensW_arg (d := (Go.Proofs.YtaeobiilihklhaaW.PrintWords.Kd.slice 42 (Go.Proofs.YtaeobiilihklhaaW.PrintWords.Kd.slice 5 (Go.Proofs.YtaeobiilihklhaaW.PrintWords.Kd.int .u8)))) (Go.Proofs.YtaeobiilihklhaaO.opensW_slice Try.underlying41 (Go.Proofs.YtaeobiilihklhaaO.opensW_slice Try.underlying42 (Go.Proofs.YtaeobiilihklhaaO.Opens.w (Go.Proofs.YtaeobiilihklhaaO.opens_int Try.underlying5)) (by kernel_rfl)) (by kernel_rfl)) hsz (j := 0) (t := 41) rfl rfl h0
  obtain ⟨rfl, rfl, rfl⟩ := Value.slice.inj (List.cons.inj e0).1
  have k1 := h1
  have lt1 : ∀ x ∈ p1, x.block < W.heap.size := by obtain ⟨m, hm⟩ := k1; exact DataW.trod_lt m _ _ _ hm
  obtain ⟨w1_0, w1_1, w1_2, yy1_0, yy1_1, yy1_2, nn1, rfl, ed1, ep1, tt1_0, tt1_1, tt1_2⟩ := Go.Joins.open_agg3 Try.underlying23 (by kernel_rfl) (by kernel_rfl) (hval 1 23 v1 rfl rfl) h1
  obtain ⟨x1_0, K1_0, ok1_0⟩ := (Go.Proofs.YtaeobiilihklhaaO.opens_int Try.underlying3) _ _ _ _ _ _ _ _ tt1_0
  obtain rfl := (List.cons.inj K1_0).1
  obtain ⟨x1_1, K1_1, ok1_1⟩ := (Go.Proofs.YtaeobiilihklhaaO.opens_int Try.underlying3) _ _ _ _ _ _ _ _ tt1_1
  obtain rfl := (List.cons.inj K1_1).1
  obtain ⟨x1_2, K1_2, ok1_2⟩ := (Go.Proofs.YtaeobiilihklhaaO.opens_int Try.underlying3) _ _ _ _ _ _ _ _ tt1_2
  obtain rfl := (List.cons.inj K1_2).1
  clear hA0 hval0 hsz0 hsz
  refine (Go.Proofs.YtaeobiilihklhaaR.is_tells (Go.Proofs.Ytaeobiilihklhaa.F.ChunkPieces_c W a0 cap0 x0 x1_0 x1_1 x1_2 hC0 hc0 ok0 ok1_0 ok1_1 ok1_2)).mono fun e W' ⟨he, bel⟩ => ?_
  subst he
  exact ⟨_, rfl, _, _, _, [], _, [], hW', trodAll_mk1 (shut_bool Try.underlying4 _), (trodAll_cons_mk (Below.trod laidOut (by kernel_rfl) (of_decide_eq_true (by kernel_rfl)) k0 bel lt0) (trodAll_cons_mk (Below.trod laidOut (by kernel_rfl) (of_decide_eq_true (by kernel_rfl)) k1 bel lt1) trodAll_mk0)), rfl, bel.frame _, fun h => by cases h⟩
theorem over : Rows.chunkPiecesRow.holds Try.pinned (OpenSpec.ofChange Rows.chunkPiecesSpec) :=
  OpenClaim.holds_of_wide 6 Try.f6 rfl rfl rfl rfl rfl rfl rfl ⟨rfl, rfl, rfl, rfl, rfl⟩ rfl rfl rfl rfl rfl (by kernel_rfl) Try.func6 (by kernel_rfl)
    (of_decide_eq_true (by kernel_rfl)) (by unfold Func.isWrapper; first | (rw [if_pos (by decide +kernel)]; kernel_rfl) | (rw [if_neg (by decide +kernel)]; exact ⟨rfl, rfl⟩))
    (fun os started H enc _ => lifted os started H enc)
end Go.Proofs.Ytaeobiilihklhaa.chunkPieces
namespace Go.Proofs.Ytaeobiilihklhaa
/-- The row, under a short name, for the claim. -/
theorem chunkPieces_holds : Rows.ChunkPiecesSaid := chunkPieces.over
#print axioms chunkPieces_holds
end Go.Proofs.Ytaeobiilihklhaa