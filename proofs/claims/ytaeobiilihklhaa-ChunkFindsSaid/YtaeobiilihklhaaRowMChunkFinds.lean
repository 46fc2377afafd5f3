/- The row of the law ChunkFinds: for every input the law's call returns true, whatever memory; no condition. Out of the contract ChunkFinds_c. -/
import Derived.Test.YtaeobiilihklhaaRows
import Derived.Test.YtaeobiilihklhaaMChunkFindsB
import Derived.WalkKit
import Derived.ProofKit
import Derived.OpenShut
import Derived.ShutString
import Derived.ChangeOld
import Derived.Below
import Derived.SizedLaws
import Derived.Test.YtaeobiilihklhaaWSized
import Derived.Lib.SmallJoins
namespace Go.Proofs.Ytaeobiilihklhaa.chunkFinds
open Go.ChangeShapes Go.WideShapes Go.ChangeAt Go.RowKit
open Go.ChangeMaps (open_string shut_string)
set_option linter.unusedVariables false
set_option linter.unusedSimpArgs false
theorem own : ownKnob Try.prog.godebug = none := by kernel_rfl
theorem laidOut : laidOutB Try.prog = true := by kernel_rfl
set_option maxRecDepth 100000 in
theorem lifted (os : Os) (started : os.Started) (H : Type) (enc : TypeId × Value → H) :
    ReturnsInHanded {} Try.checked os 5 .any (Rows.chunkFindsSpec.pre6 enc Try.prog Try.f5 Rows.chunkFindsRow.domain false) (Rows.chunkFindsSpec.post enc Try.prog Try.f5 false true false false) := by
  refine returnsInHanded_of_change_sized (C := Try.checked) own started (by kernel_rfl) Try.func5
    (ChangeSpec.witness6 (enc := enc) (C := Try.checked) false ⟨#[], #[.agg #[.string ByteArray.empty, .string ByteArray.empty], .string ByteArray.empty, .agg #[.int .i64 0, .int .i64 0, .int .i64 0]], []⟩ 8 (by kernel_rfl) (by kernel_rfl) (by kernel_rfl) (by kernel_rfl)) ?_
  intro W base args ds gs before hval0 hW hcnd hsz0 _
  have hsz : (DataW.weightsEach Try.prog (Try.f5.params.toList ++ Rows.chunkFindsSpec.plain.varTypes Try.prog) (ds ++ gs)).all (· ≤ reachBytes) = true := hsz0
  have hval : ∀ (j : Nat) t v, Try.f5.params[j]? = some t → args[j]? = some v → Value.okWide Try.prog W .any base t v := hval0
  have hW' := hW
  obtain ⟨p, q, hA0, hV, rfl, hfz, hnd⟩ := hW
  have hA : DataW.TrodAll enc Try.prog W 0 (fun _ => true) true Try.f5.params.toList args.toList ds p := hA0
  rw [Try.params5] at hA hval hsz
  obtain ⟨v0, vs0, d0, ds0, p0, q0, hargs, rfl, rfl, h0, r0⟩ := trodAll_cons hA
  obtain ⟨v1, vs1, d1, ds1, p1, q1, rfl, rfl, rfl, h1, r1⟩ := trodAll_cons r0
  obtain ⟨v2, vs2, d2, ds2, p2, q2, rfl, rfl, rfl, h2, r2⟩ := trodAll_cons r1
  obtain ⟨rfl, rfl, rfl⟩ := trodAll_nil r2
  obtain rfl : args = #[v0, v1, v2] := by cases args; simp_all
  obtain ⟨rfl, rfl⟩ := trodVars_none hV
  obtain ⟨cs0, rfl, hcs0⟩ := Go.Proofs.YtaeobiilihklhaaO.okWide_array Try.underlying36 (hval 0 36 v0 rfl rfl)
  have k0 := h0
  have lt0 : ∀ x ∈ p0, x.block < W.heap.size := by obtain ⟨m, hm⟩ := k0; exact DataW.trod_lt m _ _ _ hm
  obtain ⟨x0, hx0, ok0⟩ := Go.Proofs.YtaeobiilihklhaaO.opensW_arg (d := (Go.Proofs.YtaeobiilihklhaaW.PrintWords.Kd.arr 2 Go.Proofs.YtaeobiilihklhaaW.PrintWords.Kd.string (by decide))) (Go.Proofs.YtaeobiilihklhaaO.opensW_array (by decide) Try.underlying36 (Go.Proofs.YtaeobiilihklhaaO.opensW_string Try.underlying9) (by kernel_rfl) (by kernel_rfl)) hsz (j := 0) (t := 36) rfl rfl h0
  obtain ⟨x0_0, x0_1, c0_0, c0_1, rfl, rfl, K0_0, K0_1⟩ := Go.Proofs.YtaeobiilihklhaaO.arr2 rfl hx0
  obtain rfl := (List.cons.inj K0_0).1
  obtain rfl := (List.cons.inj K0_1).1
  obtain ⟨a1, rfl, rfl, rfl, y1⟩ := open_string Try.underlying9 (hval 1 9 v1 rfl rfl) h1
  have w1 : a1.size ≤ 140737488351232 := by
    have z := sized_string hsz (j := 1) (t := 9) rfl rfl
    rw [Array.length_toList] at z
    exact z
  have k2 := h2
  have lt2 : ∀ x ∈ p2, x.block < W.heap.size := by obtain ⟨m, hm⟩ := k2; exact DataW.trod_lt m _ _ _ hm
  obtain ⟨w2_0, w2_1, w2_2, yy2_0, yy2_1, yy2_2, nn2, rfl, ed2, ep2, tt2_0, tt2_1, tt2_2⟩ := Go.Joins.open_agg3 Try.underlying23 (by kernel_rfl) (by kernel_rfl) (hval 2 23 v2 rfl rfl) h2
  obtain ⟨x2_0, K2_0, ok2_0⟩ := (Go.Proofs.YtaeobiilihklhaaO.opens_int Try.underlying3) _ _ _ _ _ _ _ _ tt2_0
  obtain rfl := (List.cons.inj K2_0).1
  obtain ⟨x2_1, K2_1, ok2_1⟩ := (Go.Proofs.YtaeobiilihklhaaO.opens_int Try.underlying3) _ _ _ _ _ _ _ _ tt2_1
  obtain rfl := (List.cons.inj K2_1).1
  obtain ⟨x2_2, K2_2, ok2_2⟩ := (Go.Proofs.YtaeobiilihklhaaO.opens_int Try.underlying3) _ _ _ _ _ _ _ _ tt2_2
  obtain rfl := (List.cons.inj K2_2).1
  clear hA0 hval0 hsz0 hsz
  refine (Go.Proofs.YtaeobiilihklhaaR.is_tells (Go.Proofs.Ytaeobiilihklhaa.F.ChunkFinds_c W x0_0 x0_1 a1 x2_0 x2_1 x2_2 (ok0 _ (by simp)) (ok0 _ (by simp)) w1 ok2_0 ok2_1 ok2_2)).mono fun e W' ⟨he, bel⟩ => ?_
  subst he
  exact ⟨_, rfl, _, _, _, [], _, [], hW', trodAll_mk1 (shut_bool Try.underlying4 _), (trodAll_cons_mk (Below.trod laidOut (by kernel_rfl) (of_decide_eq_true (by kernel_rfl)) k0 bel lt0) (trodAll_cons_mk (shut_string Try.underlying9 y1) (trodAll_cons_mk (Below.trod laidOut (by kernel_rfl) (of_decide_eq_true (by kernel_rfl)) k2 bel lt2) trodAll_mk0))), rfl, bel.frame _, fun h => by cases h⟩
theorem over : Rows.chunkFindsRow.holds Try.pinned (OpenSpec.ofChange Rows.chunkFindsSpec) :=
  OpenClaim.holds_of_wide 5 Try.f5 rfl rfl rfl rfl rfl rfl rfl ⟨rfl, rfl, rfl, rfl, rfl⟩ rfl rfl rfl rfl rfl (by kernel_rfl) Try.func5 (by kernel_rfl)
    (of_decide_eq_true (by kernel_rfl)) (by unfold Func.isWrapper; first | (rw [if_pos (by decide +kernel)]; kernel_rfl) | (rw [if_neg (by decide +kernel)]; exact ⟨rfl, rfl⟩))
    (fun os started H enc _ => lifted os started H enc)
end Go.Proofs.Ytaeobiilihklhaa.chunkFinds
namespace Go.Proofs.Ytaeobiilihklhaa
/-- The row, under a short name, for the claim. -/
theorem chunkFinds_holds : Rows.ChunkFindsSaid := chunkFinds.over
#print axioms chunkFinds_holds
end Go.Proofs.Ytaeobiilihklhaa