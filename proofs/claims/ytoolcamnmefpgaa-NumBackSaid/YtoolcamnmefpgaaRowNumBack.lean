/- The row of the law NumBack: for every input the law's call returns true, whatever memory; no condition. Out of the contract NumBack_c. -/
import Derived.Test.YtoolcamnmefpgaaRows
import Derived.Test.YtoolcamnmefpgaaNumBack
import Derived.WalkKit
import Derived.ProofKit
import Derived.OpenShut
import Derived.ShutString
import Derived.ChangeOld
import Derived.Below
import Derived.SizedLaws
import Derived.Test.YtoolcamnmefpgaaWSized
import Derived.Test.YtoolcamnmefpgaaOpen
namespace Go.Proofs.Ytoolcamnmefpgaa.numBack
open Go.ChangeShapes Go.WideShapes Go.ChangeAt Go.RowKit
open Go.ChangeMaps (open_string shut_string)
set_option linter.unusedVariables false
set_option linter.unusedSimpArgs false
theorem own : ownKnob Try.prog.godebug = none := by kernel_rfl
theorem laidOut : laidOutB Try.prog = true := by kernel_rfl
set_option maxRecDepth 100000 in
theorem lifted (os : Os) (started : os.Started) (H : Type) (enc : TypeId × Value → H) :
    ReturnsInHanded {} Try.checked os 5 .any (Rows.numBackSpec.pre6 enc Try.prog Try.f5 Rows.numBackRow.domain false) (Rows.numBackSpec.post enc Try.prog Try.f5 false true false false) := by
  refine returnsInHanded_of_change_sized (C := Try.checked) own started (by kernel_rfl) Try.func5
    (ChangeSpec.witness6 (enc := enc) (C := Try.checked) false ⟨#[], #[.agg #[.slice none 0 0, .slice none 0 0], .int .u64 0, .int .i64 0], []⟩ 8 (by kernel_rfl) (by kernel_rfl) (by kernel_rfl) (by kernel_rfl)) ?_
  intro W base args ds gs before hval0 hW hcnd hsz0 _
  have hsz : (DataW.weightsEach Try.prog (Try.f5.params.toList ++ Rows.numBackSpec.plain.varTypes Try.prog) (ds ++ gs)).all (· ≤ reachBytes) = true := hsz0
  have hval : ∀ (j : Nat) t v, Try.f5.params[j]? = some t → args[j]? = some v → Value.okWide Try.prog W .any base t v := hval0
  have hW' := hW
  obtain ⟨p, q, hA0, hV, rfl, hfz, hnd⟩ := hW
  have hA : DataW.TrodAll enc Try.prog W 0 (fun _ => true) true Try.f5.params.toList args.toList ds p := hA0
  rw [Try.params5] at hA hval hsz
  obtain ⟨v0, vs0, d0, ds0, p0, q0, hargs, rfl, rfl, h0, r0⟩ := trodAll_cons hA
  obtain ⟨v1, vs1, d1, ds1, p1, q1, rfl, rfl, rfl, h1, r1⟩ := trodAll_cons r0
  obtain ⟨v2, vs2, d2, ds2, p2, q2, rfl, rfl, rfl, h2, r2⟩ := trodAll_cons r1
  obtain ⟨rfl, rfl, rfl⟩ := trodAll_nil r2
  obtain rfl : args = #[v0, v1, v2] := by cases args; simp_all
  obtain ⟨rfl, rfl⟩ := trodVars_none hV
  obtain ⟨cs0, rfl, hcs0⟩ := Go.Proofs.YtoolcamnmefpgaaO.okWide_array Try.underlying35 (hval 0 35 v0 rfl rfl)
  have k0 := h0
  have lt0 : ∀ x ∈ p0, x.block < W.heap.size := by obtain ⟨m, hm⟩ := k0; exact DataW.trod_lt m _ _ _ hm
  obtain ⟨x0, hx0, ok0⟩ := Go.Proofs.YtoolcamnmefpgaaO.opens_arg (d := (Go.Proofs.YtoolcamnmefpgaaW.PrintWords.Kd.arr 2 (Go.Proofs.YtoolcamnmefpgaaW.PrintWords.Kd.slice 5 (Go.Proofs.YtoolcamnmefpgaaW.PrintWords.Kd.int .u8)) (by decide))) (Go.Proofs.YtoolcamnmefpgaaO.opens_array (by decide) Try.underlying35 (Go.Proofs.YtoolcamnmefpgaaO.opens_slice Try.underlying22 (Go.Proofs.YtoolcamnmefpgaaO.opens_int Try.underlying5) (by kernel_rfl)) (by kernel_rfl) (by kernel_rfl)) h0
  obtain ⟨x0_0, x0_1, c0_0, c0_1, rfl, rfl, K0_0, K0_1⟩ := Go.Proofs.YtoolcamnmefpgaaO.arr2 rfl hx0
  obtain ⟨A0_0, cp0_0, e0_0, hc0_0, hC0_0⟩ := K0_0
  obtain rfl := (List.cons.inj e0_0).1
  obtain ⟨A0_1, cp0_1, e0_1, hc0_1, hC0_1⟩ := K0_1
  obtain rfl := (List.cons.inj e0_1).1
  obtain ⟨a1, rfl, rfl, rfl, w1⟩ := open_int Try.underlying23 (hval 1 23 v1 rfl rfl) h1
  obtain ⟨a2, rfl, rfl, rfl, w2⟩ := open_int Try.underlying3 (hval 2 3 v2 rfl rfl) h2
  clear hA0 hval0 hsz0 hsz
  refine (Go.Proofs.YtoolcamnmefpgaaR.is_tells (Go.Proofs.Ytoolcamnmefpgaa.F.NumBack_c W A0_0 cp0_0 x0_0 A0_1 cp0_1 x0_1 a1 a2 hC0_0 hc0_0 (ok0 _ (by simp)) hC0_1 hc0_1 (ok0 _ (by simp)) w1 w2)).mono fun e W' ⟨he, bel⟩ => ?_
  subst he
  exact ⟨_, rfl, _, _, _, [], _, [], hW', trodAll_mk1 (shut_bool Try.underlying4 _), (trodAll_cons_mk (Below.trod laidOut (by kernel_rfl) (of_decide_eq_true (by kernel_rfl)) k0 bel lt0) (trodAll_cons_mk (shut_int Try.underlying23 w1) (trodAll_cons_mk (shut_int Try.underlying3 w2) trodAll_mk0))), rfl, bel.frame _, fun h => by cases h⟩
theorem over : Rows.numBackRow.holds Try.pinned (OpenSpec.ofChange Rows.numBackSpec) :=
  OpenClaim.holds_of_wide 5 Try.f5 rfl rfl rfl rfl rfl rfl rfl ⟨rfl, rfl, rfl, rfl, rfl⟩ rfl rfl rfl rfl rfl (by kernel_rfl) Try.func5 (by kernel_rfl)
    (of_decide_eq_true (by kernel_rfl)) (by unfold Func.isWrapper; first | (rw [if_pos (by decide +kernel)]; kernel_rfl) | (rw [if_neg (by decide +kernel)]; exact ⟨rfl, rfl⟩))
    (fun os started H enc _ => lifted os started H enc)
end Go.Proofs.Ytoolcamnmefpgaa.numBack
namespace Go.Proofs.Ytoolcamnmefpgaa
/-- The row, under a short name, for the claim. -/
theorem numBack_holds : Rows.NumBackSaid := numBack.over
#print axioms numBack_holds
end Go.Proofs.Ytoolcamnmefpgaa