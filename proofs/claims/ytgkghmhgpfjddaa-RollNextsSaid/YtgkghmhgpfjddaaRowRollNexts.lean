/- The row of the law RollNexts: for every input the law's call returns true, whatever memory; no condition. Out of the contract RollNexts_c. -/
import Derived.Test.YtgkghmhgpfjddaaRows
import Derived.Test.YtgkghmhgpfjddaaRollNexts
import Derived.WalkKit
import Derived.ProofKit
import Derived.OpenShut
import Derived.ShutString
import Derived.ChangeOld
import Derived.Below
import Derived.SizedLaws
import Derived.Test.YtgkghmhgpfjddaaWSized
import Derived.Test.YtgkghmhgpfjddaaOpen
namespace Go.Proofs.Ytgkghmhgpfjddaa.rollNexts
open Go.ChangeShapes Go.WideShapes Go.ChangeAt Go.RowKit
open Go.ChangeMaps (open_string shut_string)
set_option linter.unusedVariables false
set_option linter.unusedSimpArgs false
theorem own : ownKnob Try.prog.godebug = none := by kernel_rfl
theorem laidOut : laidOutB Try.prog = true := by kernel_rfl
set_option maxRecDepth 100000 in
theorem lifted (os : Os) (started : os.Started) (H : Type) (enc : TypeId × Value → H) :
    ReturnsInHanded {} Try.checked os 7 .any (Rows.rollNextsSpec.pre6 enc Try.prog Try.f7 Rows.rollNextsRow.domain false) (Rows.rollNextsSpec.post enc Try.prog Try.f7 false true false false) := by
  refine returnsInHanded_of_change_sized (C := Try.checked) own started (by kernel_rfl) Try.func7
    (ChangeSpec.witness6 (enc := enc) (C := Try.checked) false ⟨#[], #[.agg #[.int .u32 0, .int .u32 0], .int .i64 0, .agg #[.int .u8 0, .int .u8 0]], []⟩ 8 (by kernel_rfl) (by kernel_rfl) (by kernel_rfl) (by kernel_rfl)) ?_
  intro W base args ds gs before hval0 hW hcnd hsz0 _
  have hsz : (DataW.weightsEach Try.prog (Try.f7.params.toList ++ Rows.rollNextsSpec.plain.varTypes Try.prog) (ds ++ gs)).all (· ≤ reachBytes) = true := hsz0
  have hval : ∀ (j : Nat) t v, Try.f7.params[j]? = some t → args[j]? = some v → Value.okWide Try.prog W .any base t v := hval0
  have hW' := hW
  obtain ⟨p, q, hA0, hV, rfl, hfz, hnd⟩ := hW
  have hA : DataW.TrodAll enc Try.prog W 0 (fun _ => true) true Try.f7.params.toList args.toList ds p := hA0
  rw [Try.params7] at hA hval hsz
  obtain ⟨v0, vs0, d0, ds0, p0, q0, hargs, rfl, rfl, h0, r0⟩ := trodAll_cons hA
  obtain ⟨v1, vs1, d1, ds1, p1, q1, rfl, rfl, rfl, h1, r1⟩ := trodAll_cons r0
  obtain ⟨v2, vs2, d2, ds2, p2, q2, rfl, rfl, rfl, h2, r2⟩ := trodAll_cons r1
  obtain ⟨rfl, rfl, rfl⟩ := trodAll_nil r2
  obtain rfl : args = #[v0, v1, v2] := by cases args; simp_all
  obtain ⟨rfl, rfl⟩ := trodVars_none hV
  obtain ⟨cs0, rfl, hcs0⟩ := Go.Proofs.YtgkghmhgpfjddaaO.okWide_array Try.underlying33 (hval 0 33 v0 rfl rfl)
  have k0 := h0
  have lt0 : ∀ x ∈ p0, x.block < W.heap.size := by obtain ⟨m, hm⟩ := k0; exact DataW.trod_lt m _ _ _ hm
  obtain ⟨x0, hx0, ok0⟩ := Go.Proofs.YtgkghmhgpfjddaaO.opens_arg (d := (Go.Proofs.YtgkghmhgpfjddaaW.PrintWords.Kd.arr 2 (Go.Proofs.YtgkghmhgpfjddaaW.PrintWords.Kd.int .u32) (by decide))) (Go.Proofs.YtgkghmhgpfjddaaO.opens_array (by decide) Try.underlying33 (Go.Proofs.YtgkghmhgpfjddaaO.opens_int Try.underlying24) (by kernel_rfl) (by kernel_rfl)) h0
  obtain ⟨x0_0, x0_1, c0_0, c0_1, rfl, rfl, K0_0, K0_1⟩ := Go.Proofs.YtgkghmhgpfjddaaO.arr2 rfl hx0
  obtain rfl := (List.cons.inj K0_0).1
  obtain rfl := (List.cons.inj K0_1).1
  obtain ⟨a1, rfl, rfl, rfl, w1⟩ := open_int Try.underlying3 (hval 1 3 v1 rfl rfl) h1
  obtain ⟨cs2, rfl, hcs2⟩ := Go.Proofs.YtgkghmhgpfjddaaO.okWide_array Try.underlying34 (hval 2 34 v2 rfl rfl)
  have k2 := h2
  have lt2 : ∀ x ∈ p2, x.block < W.heap.size := by obtain ⟨m, hm⟩ := k2; exact DataW.trod_lt m _ _ _ hm
  obtain ⟨x2, hx2, ok2⟩ := Go.Proofs.YtgkghmhgpfjddaaO.opens_arg (d := (Go.Proofs.YtgkghmhgpfjddaaW.PrintWords.Kd.arr 2 (Go.Proofs.YtgkghmhgpfjddaaW.PrintWords.Kd.int .u8) (by decide))) (Go.Proofs.YtgkghmhgpfjddaaO.opens_array (by decide) Try.underlying34 (Go.Proofs.YtgkghmhgpfjddaaO.opens_int Try.underlying5) (by kernel_rfl) (by kernel_rfl)) h2
  obtain ⟨x2_0, x2_1, c2_0, c2_1, rfl, rfl, K2_0, K2_1⟩ := Go.Proofs.YtgkghmhgpfjddaaO.arr2 rfl hx2
  obtain rfl := (List.cons.inj K2_0).1
  obtain rfl := (List.cons.inj K2_1).1
  clear hA0 hval0 hsz0 hsz
  refine (Go.Proofs.YtgkghmhgpfjddaaR.is_tells (Go.Proofs.Ytgkghmhgpfjddaa.F.RollNexts_c W x0_0 x0_1 a1 x2_0 x2_1 (ok0 _ (by simp)) (ok0 _ (by simp)) w1 (ok2 _ (by simp)) (ok2 _ (by simp)))).mono fun e W' ⟨he, bel⟩ => ?_
  subst he
  exact ⟨_, rfl, _, _, _, [], _, [], hW', trodAll_mk1 (shut_bool Try.underlying4 _), (trodAll_cons_mk (Below.trod laidOut (by kernel_rfl) (of_decide_eq_true (by kernel_rfl)) k0 bel lt0) (trodAll_cons_mk (shut_int Try.underlying3 w1) (trodAll_cons_mk (Below.trod laidOut (by kernel_rfl) (of_decide_eq_true (by kernel_rfl)) k2 bel lt2) trodAll_mk0))), rfl, bel.frame _, fun h => by cases h⟩
theorem over : Rows.rollNextsRow.holds Try.pinned (OpenSpec.ofChange Rows.rollNextsSpec) :=
  OpenClaim.holds_of_wide 7 Try.f7 rfl rfl rfl rfl rfl rfl rfl ⟨rfl, rfl, rfl, rfl, rfl⟩ rfl rfl rfl rfl rfl (by kernel_rfl) Try.func7 (by kernel_rfl)
    (of_decide_eq_true (by kernel_rfl)) (by unfold Func.isWrapper; first | (rw [if_pos (by decide +kernel)]; kernel_rfl) | (rw [if_neg (by decide +kernel)]; exact ⟨rfl, rfl⟩))
    (fun os started H enc _ => lifted os started H enc)
end Go.Proofs.Ytgkghmhgpfjddaa.rollNexts
namespace Go.Proofs.Ytgkghmhgpfjddaa
/-- The row, under a short name, for the claim. -/
theorem rollNexts_holds : Rows.RollNextsSaid := rollNexts.over
#print axioms rollNexts_holds
end Go.Proofs.Ytgkghmhgpfjddaa