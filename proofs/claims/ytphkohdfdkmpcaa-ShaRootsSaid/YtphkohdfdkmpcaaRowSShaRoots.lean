/- The row of the law ShaRoots: for every input the law's call returns true, whatever memory; no condition. Out of the contract ShaRoots_c. -/
import Derived.Test.YtphkohdfdkmpcaaSC
import Derived.Test.YtphkohdfdkmpcaaRows
import Derived.WalkKit
import Derived.ProofKit
import Derived.OpenShut
import Derived.ShutString
import Derived.ChangeOld
import Derived.Below
import Derived.SizedLaws
import Derived.Test.YtphkohdfdkmpcaaWSized

-- ShaRoots
namespace Go.Proofs.Ytphkohdfdkmpcaa.F
open Go Go.RowKit Go.Proofs.YtphkohdfdkmpcaaW.PrintWords Go.Proofs.YtphkohdfdkmpcaaW.PrintLast Go.Proofs.YtphkohdfdkmpcaaW.PrintMore Go.Proofs.YtphkohdfdkmpcaaR
attribute [local go_sem] max2_int min2_int max_two min_two
set_option linter.unusedSimpArgs false
set_option linter.unusedVariables false
set_option maxRecDepth 100000
theorem ShaRoots_c (w : World) (a : Int) (b : Bool) (ha : (Lit.int .u32 a).wf = true) : Calls Try.prog 4 #[.int .u32 a, .bool b] w (Tells w (Is (.bool true))) := by
  have hab : 0 ≤ a ∧ a < 4294967296 := by
    simp [Lit.wf, IntKind.min, IntKind.max, IntKind.bits, IntKind.signed] at ha
    omega
  obtain ⟨p, rfl⟩ := Int.eq_ofNat_of_zero_le hab.1
  have hp : p < 4294967296 := by omega
  obtain ⟨r, hr⟩ : ∃ r, r = rootL p b 49 0 % 4294967296 := ⟨_, rfl⟩
  have h1 := fun w => root_c p hp b w
  have h2 := fun w => rroot_c p hp b w
  simp only [← hr] at h1 h2
  have H1 := Lib.hid h1
  have H2 := Lib.hid h2
  clear h1 h2 hr ha hab hp
  go_enter Try.func4, Try.ntmps4
  go_wp2_with fail
  refine (H1.out w).mono ?_
  rintro e w1 ⟨_, rfl, rfl, hg1⟩
  go_wp2_with fail
  refine (H2.out w1).mono ?_
  rintro e w2 ⟨_, rfl, rfl, hg2⟩
  go_wp2_with fail
  refine (lives_c w2).mono ?_
  rintro e w3 ⟨_, rfl, rfl, hg3⟩
  go_wp2_with fail
  go_ret
  exact ⟨_, rfl, rfl, Grew.trans (Grew.trans hg1 hg2) hg3⟩
end Go.Proofs.Ytphkohdfdkmpcaa.F

-- RowShaRoots
namespace Go.Proofs.Ytphkohdfdkmpcaa.shaRoots
open Go.ChangeShapes Go.WideShapes Go.ChangeAt Go.RowKit
open Go.ChangeMaps (open_string shut_string)
set_option linter.unusedVariables false
set_option linter.unusedSimpArgs false
theorem own : ownKnob Try.prog.godebug = none := by kernel_rfl
theorem laidOut : laidOutB Try.prog = true := by kernel_rfl
set_option maxRecDepth 100000 in
theorem lifted (os : Os) (started : os.Started) (H : Type) (enc : TypeId × Value → H) :
    ReturnsInHanded {} Try.checked os 4 .any (Rows.shaRootsSpec.pre6 enc Try.prog Try.f4 Rows.shaRootsRow.domain false) (Rows.shaRootsSpec.post enc Try.prog Try.f4 false true false false) := by
  refine returnsInHanded_of_change_sized (C := Try.checked) own started (by kernel_rfl) Try.func4
    (ChangeSpec.witness6 (enc := enc) (C := Try.checked) false ⟨#[], #[.int .u32 0, .bool false], []⟩ 8 (by kernel_rfl) (by kernel_rfl) (by kernel_rfl) (by kernel_rfl)) ?_
  intro W base args ds gs before hval0 hW hcnd hsz0 _
  have hsz : (DataW.weightsEach Try.prog (Try.f4.params.toList ++ Rows.shaRootsSpec.plain.varTypes Try.prog) (ds ++ gs)).all (· ≤ reachBytes) = true := hsz0
  have hval : ∀ (j : Nat) t v, Try.f4.params[j]? = some t → args[j]? = some v → Value.okWide Try.prog W .any base t v := hval0
  have hW' := hW
  obtain ⟨p, q, hA0, hV, rfl, hfz, hnd⟩ := hW
  have hA : DataW.TrodAll enc Try.prog W 0 (fun _ => true) true Try.f4.params.toList args.toList ds p := hA0
  rw [Try.params4] at hA hval hsz
  obtain ⟨v0, vs0, d0, ds0, p0, q0, hargs, rfl, rfl, h0, r0⟩ := trodAll_cons hA
  obtain ⟨v1, vs1, d1, ds1, p1, q1, rfl, rfl, rfl, h1, r1⟩ := trodAll_cons r0
  obtain ⟨rfl, rfl, rfl⟩ := trodAll_nil r1
  obtain rfl : args = #[v0, v1] := by cases args; simp_all
  obtain ⟨rfl, rfl⟩ := trodVars_none hV
  obtain ⟨a0, rfl, rfl, rfl, w0⟩ := open_int Try.underlying22 (hval 0 22 v0 rfl rfl) h0
  obtain ⟨a1, rfl, rfl, rfl⟩ := open_bool Try.underlying4 (hval 1 4 v1 rfl rfl) h1
  clear hA0 hval0 hsz0 hsz
  refine (Go.Proofs.YtphkohdfdkmpcaaR.is_tells (Go.Proofs.Ytphkohdfdkmpcaa.F.ShaRoots_c W a0 a1 w0)).mono fun e W' ⟨he, bel⟩ => ?_
  subst he
  exact ⟨_, rfl, _, _, _, [], _, [], hW', trodAll_mk1 (shut_bool Try.underlying4 _), (trodAll_cons_mk (shut_int Try.underlying22 w0) (trodAll_cons_mk (shut_bool Try.underlying4 _) trodAll_mk0)), rfl, bel.frame _, fun h => by cases h⟩
theorem over : Rows.shaRootsRow.holds Try.pinned (OpenSpec.ofChange Rows.shaRootsSpec) :=
  OpenClaim.holds_of_wide 4 Try.f4 rfl rfl rfl rfl rfl rfl rfl ⟨rfl, rfl, rfl, rfl, rfl⟩ rfl rfl rfl rfl rfl (by kernel_rfl) Try.func4 (by kernel_rfl)
    (of_decide_eq_true (by kernel_rfl)) (by unfold Func.isWrapper; first | (rw [if_pos (by decide +kernel)]; kernel_rfl) | (rw [if_neg (by decide +kernel)]; exact ⟨rfl, rfl⟩))
    (fun os started H enc _ => lifted os started H enc)
end Go.Proofs.Ytphkohdfdkmpcaa.shaRoots
namespace Go.Proofs.Ytphkohdfdkmpcaa
/-- The row, under a short name, for the claim. -/
theorem shaRoots_holds : Rows.ShaRootsSaid := shaRoots.over
#print axioms shaRoots_holds
end Go.Proofs.Ytphkohdfdkmpcaa
