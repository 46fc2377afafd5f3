/- The law RollSums: its call returns true, for all bytes: the program's weak sum and the reference's are the same number. -/
import Derived.Test.YtgkghmhgpfjddaaRollC
import Derived.Lib.Hide
import Derived.Outline
import Derived.Test.YtgkghmhgpfjddaaF10
namespace Go.Proofs.Ytgkghmhgpfjddaa.F
open Go Go.RowKit Go.Proofs.YtgkghmhgpfjddaaW.PrintWords Go.Proofs.YtgkghmhgpfjddaaW.PrintLast Go.Proofs.YtgkghmhgpfjddaaW.PrintMore Go.Proofs.YtgkghmhgpfjddaaM Go.Proofs.YtgkghmhgpfjddaaR
set_option linter.unusedSimpArgs false
set_option linter.unusedVariables false
theorem lives_c (w : World) : Calls Try.prog 10 #[] w (Tells w (Is (.bool true))) := by
  refine tells_is (strongroomlaw04_lives.calls 4 true w ?_)
  unfold strongroomlaw04_lives.f
  rw [sum_f _ (by simp) (by simp) 4 (by simp)]
  rfl
theorem RollSums_c (w : World) (A : Option Addr) (c : Nat) (l : List Int) (hr : Kd.C (Kd.int .u8) w A l.length l) (hc : l.length ≤ c) (hm : l.length ≤ maxLen) (hy : l.length * 1 ≤ 140737488351232) (hw : ∀ x ∈ l, (Lit.int .u8 x).wf = true) :
    Calls Try.prog 3 #[.slice A l.length c] w (Tells w (Is (.bool true))) := by
  have hb := Lib.hid (bytes_of hw)
  clear hw
  by_cases h : 5000 < l.length
  · have h1 : decide (5000 < l.length) = true := decide_eq_true h
    go_enter Try.func3, Try.ntmps3
    go_wp2_with fail
    refine (lives_c _).mono ?_
    rintro e w' ⟨_, rfl, rfl, hg⟩
    go_wp2
    go_ret
    exact ⟨_, rfl, rfl, hg⟩
  · have h1 : decide (5000 < l.length) = false := decide_eq_false h
    go_enter Try.func3, Try.ntmps3
    go_wp2_with fail
    apply region_grew [Is _, Is _, Is _, Is _] [([(0, none)], none), ([(7, some 0)], none), ([(0, none)], none), ([(9, some 2)], none)] [(7, 0), (8, 1), (9, 2), (10, 3)] rfl (by kernel_rfl) (by kernel_rfl) (show Stable Grew _ from ⟨Is.stable _, Is.stable _, Is.stable _, Is.stable _, trivial⟩)
    · show OpsHold _ _ _ _ _ _ _ _ _
      refine ⟨fun a_ wx hR hD K hK => ?_, ?_⟩
      · have hG : Grew w wx := (Grew.drew _).trans hR
        simp [Deps, Dep, at_, Is] at hD
        go_simp
        exact hK _ _ (Grew.refl _) rfl
      refine ⟨fun a_ wx hR hD K hK => ?_, ?_⟩
      · have hG : Grew w wx := (Grew.drew _).trans hR
        simp [Deps, Dep, at_, Is] at hD
        go_simp
        have hcn := sum_c A c l wx (Kd.C_below hr hG) hc (by omega) hb.out
        with_reducible refine hcn.mono ?_
        clear hcn
        rintro e wy ⟨v, rfl, hv, hg⟩
        exact hK _ _ hg hv
      refine ⟨fun a_ wx hR hD K hK => ?_, ?_⟩
      · have hG : Grew w wx := (Grew.drew _).trans hR
        simp [Deps, Dep, at_, Is] at hD
        go_simp
        exact hK _ _ (Grew.refl _) rfl
      refine ⟨fun a_ wx hR hD K hK => ?_, ?_⟩
      · have hG : Grew w wx := (Grew.drew _).trans hR
        simp [Deps, Dep, at_, Is] at hD
        have hcv := Kd.C_string (P := Try.prog) (c := c) Try.underlying22 Try.underlying5 Try.underlying9 (Kd.C_below hr hG)
        go_simp
        exact hK _ _ (Grew.refl _) rfl
      trivial
    · show EndHold _ _ _ _ _ _ _
      refine end_all (xs := [_, _, _, _]) ⟨rfl, rfl, rfl, rfl, trivial⟩ ?_
      rintro w1 hR1 -
      refine ⟨?_⟩
      have hG_w1 : Grew w w1 := (Grew.drew _).trans hR1
      clear hR1
      simp only [Act.put, List.setIfInBounds_toArray, List.set_cons_succ, List.set_cons_zero, dropN, putEach]
      go_wp2_with fail
      refine (rsum_c _ _ (by rw [str_size]; omega)).mono ?_
      rintro e w2 ⟨_, rfl, rfl, hg2⟩
      rw [bytesOf_str hb.out]
      go_wp2_with fail
      refine (lives_c _).mono ?_
      rintro e w3 ⟨_, rfl, rfl, hg3⟩
      go_wp2
      go_ret
      exact ⟨_, rfl, rfl, hG_w1.trans (hg2.trans hg3)⟩
end Go.Proofs.Ytgkghmhgpfjddaa.F
