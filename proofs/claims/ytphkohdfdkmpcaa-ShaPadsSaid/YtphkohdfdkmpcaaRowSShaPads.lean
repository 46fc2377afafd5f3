/- The row of the law ShaPads: for every input the law's call returns true, whatever memory; no condition. Out of the contract ShaPads_c. -/
import Derived.Test.YtphkohdfdkmpcaaSC
import Derived.Test.YtphkohdfdkmpcaaRows
import Derived.WalkKit
import Derived.ProofKit
import Derived.OpenShut
import Derived.ShutString
import Derived.ChangeOld
import Derived.Below
import Derived.SizedLaws
import Derived.Test.YtphkohdfdkmpcaaWSized

-- ShaPads
namespace Go.Proofs.Ytphkohdfdkmpcaa.F
open Go Go.RowKit Go.Proofs.YtphkohdfdkmpcaaW.PrintWords Go.Proofs.YtphkohdfdkmpcaaW.PrintLast Go.Proofs.YtphkohdfdkmpcaaW.PrintMore Go.Proofs.YtphkohdfdkmpcaaR
attribute [local go_sem] max2_int min2_int max_two min_two
set_option linter.unusedSimpArgs false
set_option linter.unusedVariables false
set_option maxRecDepth 100000
theorem pad_neg (i : Int) (hi : i < 0) (w : World) : Calls Try.prog 16 #[.int .i64 i] w (Tells w (fun w' v => w'.ownsRow w.heap.size 5 1 v 0 (nums .u8 []))) := by
  have hf : sha_Pad.f 1 i = some [] := by unfold sha_Pad.f; rw [if_pos hi]
  exact (sha_Pad.calls 1 i [] w hf).mono fun _ _ ⟨v, h, hr, k⟩ => ⟨v, h, Kd.own_of_R (enc := Value.int .u8) hr, k⟩
set_option maxHeartbeats 2000000 in
theorem ShaPads_c (w : World) (i : Int) (hi : (Lit.int .i64 i).wf = true) : Calls Try.prog 5 #[.int .i64 i] w (Tells w (Is (.bool true))) := by
  have hib : -9223372036854775808 ≤ i ∧ i < 9223372036854775808 := by
    simp [Lit.wf, IntKind.min, IntKind.max, IntKind.bits, IntKind.signed] at hi
    omega
  clear hi
  by_cases hn : i < 0
  · have d1 : decide (i < 0) = true := decide_eq_true hn
    have H1 := Lib.hid (pad_neg i hn w)
    clear hib
    go_enter Try.func5, Try.ntmps5
    go_wp2_with fail
    refine H1.out.mono ?_
    rintro e w1 ⟨v, rfl, ho, hg1⟩
    obtain ⟨A, c, rfl⟩ := own_slice ho
    clear ho
    go_wp2_with fail
    refine (lives_c w1).mono ?_
    rintro e w3 ⟨_, rfl, rfl, hg3⟩
    go_wp2_with fail
    go_ret
    exact ⟨_, rfl, rfl, Grew.trans hg1 hg3⟩
  · have d1 : decide (i < 0) = false := decide_eq_false hn
    obtain ⟨n, rfl⟩ := Int.eq_ofNat_of_zero_le (by omega : 0 ≤ i)
    have H1 := Lib.hid (pad_c n (by omega) w)
    obtain ⟨P, hP⟩ : ∃ P, P = strOfNums (padL n) := ⟨_, rfl⟩
    have h2 := fun w => rpad_c n w
    simp only [← hP] at h2
    have H2 := Lib.hid h2
    have hz : zN n < 64 := Nat.mod_lt _ (by omega)
    have hzf := zN_fill n
    obtain ⟨m, hm⟩ : ∃ m, m = (padL n).length := ⟨_, rfl⟩
    obtain ⟨r, hr⟩ : ∃ r, r = n % 64 := ⟨_, rfl⟩
    obtain ⟨q, hq⟩ : ∃ q, q = r + m := ⟨_, rfl⟩
    have hm9 : m = zN n + 9 := by rw [hm, padL_len]
    have e1 : (n : Int).tmod 64 = (r : Int) := by rw [show (64 : Int) = ((64 : Nat) : Int) from rfl, tmod_nat, hr]
    have e2 : IntKind.i64.wrap ((r : Int) + (m : Int)) = (q : Int) := by rw [IntWalk.i64_in _ (by omega)]; omega
    have e3 : (q : Int).tmod 64 = 0 := by rw [show (64 : Int) = ((64 : Nat) : Int) from rfl, tmod_nat]; omega
    have d2 : decide (9 ≤ (m : Int)) = true := decide_eq_true (by omega)
    have d3 : decide ((m : Int) ≤ 72) = true := decide_eq_true (by omega)
    have HP := Lib.hid hP
    have HM := Lib.hid hm
    clear hP hm hr hq hm9 hz hzf h2 hib
    go_enter Try.func5, Try.ntmps5
    go_wp2_with fail
    refine H1.out.mono ?_
    rintro e w1 ⟨v, rfl, ho, hg1⟩
    rw [← HM.out] at ho
    obtain ⟨A, c, rfl⟩ := own_slice ho
    have HST := Lib.hid (fun (wx : World) (hG : Grew w1 wx) => show (convert 28 9 (.slice A m c)).run Try.prog wx = .ok (.string P) wx from by
      rw [HP.out]; exact own_string (P := Try.prog) Try.underlying28 Try.underlying5 Try.underlying9 (pw_own_below ho hG))
    clear ho
    go_wp2_with fail
    apply region_grew [Is _, Is _, Is _, Is _, Is _, Is _, Is _, Is _, Is _, Is _] [([(3, none)], none), ([(14, some 0)], none), ([(0, none)], none), ([(16, some 2)], none), ([(15, some 1), (17, some 3)], none), ([(18, some 4)], none), ([(0, none), (19, some 5)], some (19, true)), ([(20, some 6), (19, some 5)], some (19, true)), ([(3, none), (19, some 5)], some (19, true)), ([(22, some 8), (19, some 5)], some (19, true))] [(14, 0), (15, 1), (16, 2), (17, 3), (18, 4), (19, 5), (20, 6), (21, 7), (22, 8), (23, 9)] rfl (by kernel_rfl) (by kernel_rfl) (show Stable Grew _ from ⟨Is.stable _, Is.stable _, Is.stable _, Is.stable _, Is.stable _, Is.stable _, Is.stable _, Is.stable _, Is.stable _, Is.stable _, trivial⟩)
    · show OpsHold _ _ _ _ _ _ _ _ _
      refine ⟨fun a_ wx hR hD K hK => ?_, ?_⟩
      · have hG : Grew w1 wx := (Grew.drew _).trans hR
        simp [Deps, Dep, at_, Is] at hD
        go_simp
        exact hK _ _ (Grew.refl _) rfl
      refine ⟨fun a_ wx hR hD K hK => ?_, ?_⟩
      · have hG : Grew w1 wx := (Grew.drew _).trans hR
        simp [Deps, Dep, at_, Is] at hD
        have hcv := HST.out wx hG
        go_simp
        exact hK _ _ (Grew.refl _) rfl
      refine ⟨fun a_ wx hR hD K hK => ?_, ?_⟩
      · have hG : Grew w1 wx := (Grew.drew _).trans hR
        simp [Deps, Dep, at_, Is] at hD
        go_simp
        exact hK _ _ (Grew.refl _) rfl
      refine ⟨fun a_ wx hR hD K hK => ?_, ?_⟩
      · have hG : Grew w1 wx := (Grew.drew _).trans hR
        simp [Deps, Dep, at_, Is] at hD
        go_simp
        have hcn := H2.out wx
        with_reducible refine hcn.mono ?_
        clear hcn
        rintro e wy ⟨v, rfl, hv, hg⟩
        exact hK _ _ hg hv
      refine ⟨fun a_ wx hR hD K hK => ?_, ?_⟩
      · have hG : Grew w1 wx := (Grew.drew _).trans hR
        simp [Deps, Dep, at_, Is] at hD
        obtain ⟨hd0, hd1⟩ := hD
        go_simp
        exact hK _ _ (Grew.refl _) rfl
      refine ⟨fun a_ wx hR hD K hK => ?_, ?_⟩
      · have hG : Grew w1 wx := (Grew.drew _).trans hR
        simp [Deps, Dep, at_, Is] at hD
        go_simp
        exact hK _ _ (Grew.refl _) rfl
      refine ⟨fun a_ wx hR hD => ⟨fun hgd K hK => ?_, fun hgd => ?_⟩, ?_⟩
      · have hG : Grew w1 wx := (Grew.drew _).trans hR
        clear hgd
        simp [Deps, Dep, at_, Is] at hD
        obtain ⟨hd0, hd1⟩ := hD
        go_simp
        exact hK _ _ (Grew.refl _) rfl
      · have hG : Grew w1 wx := (Grew.drew _).trans hR
        exfalso
        simp [Deps, Dep, at_, Is] at hD
        simp_all
      refine ⟨fun a_ wx hR hD => ⟨fun hgd K hK => ?_, fun hgd => ?_⟩, ?_⟩
      · have hG : Grew w1 wx := (Grew.drew _).trans hR
        clear hgd
        simp [Deps, Dep, at_, Is] at hD
        obtain ⟨hd0, hd1⟩ := hD
        go_simp
        exact hK _ _ (Grew.refl _) rfl
      · have hG : Grew w1 wx := (Grew.drew _).trans hR
        exfalso
        simp [Deps, Dep, at_, Is] at hD
        simp_all
      refine ⟨fun a_ wx hR hD => ⟨fun hgd K hK => ?_, fun hgd => ?_⟩, ?_⟩
      · have hG : Grew w1 wx := (Grew.drew _).trans hR
        clear hgd
        simp [Deps, Dep, at_, Is] at hD
        obtain ⟨hd0, hd1⟩ := hD
        go_simp
        exact hK _ _ (Grew.refl _) rfl
      · have hG : Grew w1 wx := (Grew.drew _).trans hR
        exfalso
        simp [Deps, Dep, at_, Is] at hD
        simp_all
      refine ⟨fun a_ wx hR hD => ⟨fun hgd K hK => ?_, fun hgd => ?_⟩, ?_⟩
      · have hG : Grew w1 wx := (Grew.drew _).trans hR
        clear hgd
        simp [Deps, Dep, at_, Is] at hD
        obtain ⟨hd0, hd1⟩ := hD
        go_simp
        exact hK _ _ (Grew.refl _) rfl
      · have hG : Grew w1 wx := (Grew.drew _).trans hR
        exfalso
        simp [Deps, Dep, at_, Is] at hD
        simp_all
      trivial
    · show EndHold _ _ _ _ _ _ _
      refine end_all (xs := [_, _, _, _, _, _, _, _, _, _]) ⟨rfl, rfl, rfl, rfl, rfl, rfl, rfl, rfl, rfl, rfl, trivial⟩ ?_
      rintro w2 hR1 -
      refine ⟨?_⟩
      have hG_w2 : Grew w1 w2 := (Grew.drew _).trans hR1
      clear hR1
      simp only [Act.put, List.setIfInBounds_toArray, List.set_cons_succ, List.set_cons_zero, dropN, putEach]
      go_wp2_with fail
      refine (lives_c w2).mono ?_
      rintro e w3 ⟨_, rfl, rfl, hg3⟩
      go_wp2_with fail
      go_ret
      exact ⟨_, rfl, rfl, Grew.trans (Grew.trans hg1 hG_w2) hg3⟩
end Go.Proofs.Ytphkohdfdkmpcaa.F

-- RowShaPads
namespace Go.Proofs.Ytphkohdfdkmpcaa.shaPads
open Go.ChangeShapes Go.WideShapes Go.ChangeAt Go.RowKit
open Go.ChangeMaps (open_string shut_string)
set_option linter.unusedVariables false
set_option linter.unusedSimpArgs false
theorem own : ownKnob Try.prog.godebug = none := by kernel_rfl
theorem laidOut : laidOutB Try.prog = true := by kernel_rfl
set_option maxRecDepth 100000 in
theorem lifted (os : Os) (started : os.Started) (H : Type) (enc : TypeId × Value → H) :
    ReturnsInHanded {} Try.checked os 5 .any (Rows.shaPadsSpec.pre6 enc Try.prog Try.f5 Rows.shaPadsRow.domain false) (Rows.shaPadsSpec.post enc Try.prog Try.f5 false true false false) := by
  refine returnsInHanded_of_change_sized (C := Try.checked) own started (by kernel_rfl) Try.func5
    (ChangeSpec.witness6 (enc := enc) (C := Try.checked) false ⟨#[], #[.int .i64 0], []⟩ 8 (by kernel_rfl) (by kernel_rfl) (by kernel_rfl) (by kernel_rfl)) ?_
  intro W base args ds gs before hval0 hW hcnd hsz0 _
  have hsz : (DataW.weightsEach Try.prog (Try.f5.params.toList ++ Rows.shaPadsSpec.plain.varTypes Try.prog) (ds ++ gs)).all (· ≤ reachBytes) = true := hsz0
  have hval : ∀ (j : Nat) t v, Try.f5.params[j]? = some t → args[j]? = some v → Value.okWide Try.prog W .any base t v := hval0
  have hW' := hW
  obtain ⟨p, q, hA0, hV, rfl, hfz, hnd⟩ := hW
  have hA : DataW.TrodAll enc Try.prog W 0 (fun _ => true) true Try.f5.params.toList args.toList ds p := hA0
  rw [Try.params5] at hA hval hsz
  obtain ⟨v0, vs0, d0, ds0, p0, q0, hargs, rfl, rfl, h0, r0⟩ := trodAll_cons hA
  obtain ⟨rfl, rfl, rfl⟩ := trodAll_nil r0
  obtain rfl : args = #[v0] := by cases args; simp_all
  obtain ⟨rfl, rfl⟩ := trodVars_none hV
  obtain ⟨a0, rfl, rfl, rfl, w0⟩ := open_int Try.underlying3 (hval 0 3 v0 rfl rfl) h0
  clear hA0 hval0 hsz0 hsz
  refine (Go.Proofs.YtphkohdfdkmpcaaR.is_tells (Go.Proofs.Ytphkohdfdkmpcaa.F.ShaPads_c W a0 w0)).mono fun e W' ⟨he, bel⟩ => ?_
  subst he
  exact ⟨_, rfl, _, _, _, [], _, [], hW', trodAll_mk1 (shut_bool Try.underlying4 _), (trodAll_cons_mk (shut_int Try.underlying3 w0) trodAll_mk0), rfl, bel.frame _, fun h => by cases h⟩
theorem over : Rows.shaPadsRow.holds Try.pinned (OpenSpec.ofChange Rows.shaPadsSpec) :=
  OpenClaim.holds_of_wide 5 Try.f5 rfl rfl rfl rfl rfl rfl rfl ⟨rfl, rfl, rfl, rfl, rfl⟩ rfl rfl rfl rfl rfl (by kernel_rfl) Try.func5 (by kernel_rfl)
    (of_decide_eq_true (by kernel_rfl)) (by unfold Func.isWrapper; first | (rw [if_pos (by decide +kernel)]; kernel_rfl) | (rw [if_neg (by decide +kernel)]; exact ⟨rfl, rfl⟩))
    (fun os started H enc _ => lifted os started H enc)
end Go.Proofs.Ytphkohdfdkmpcaa.shaPads
namespace Go.Proofs.Ytphkohdfdkmpcaa
/-- The row, under a short name, for the claim. -/
theorem shaPads_holds : Rows.ShaPadsSaid := shaPads.over
#print axioms shaPads_holds
end Go.Proofs.Ytphkohdfdkmpcaa
