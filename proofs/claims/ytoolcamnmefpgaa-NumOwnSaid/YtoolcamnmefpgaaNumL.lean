/- The laws NumPuts and NumGets: their calls return true, for all bytes, numbers and places. -/
import Derived.Test.YtoolcamnmefpgaaNumG
import Derived.Test.YtoolcamnmefpgaaF10
import Derived.Test.YtoolcamnmefpgaaF11
namespace Go.Proofs.Ytoolcamnmefpgaa.F
open Go Go.RowKit Go.Proofs.YtoolcamnmefpgaaW.PrintWords Go.Proofs.YtoolcamnmefpgaaW.PrintLast Go.Proofs.YtoolcamnmefpgaaW.PrintMore Go.Proofs.YtoolcamnmefpgaaM Go.Proofs.YtoolcamnmefpgaaR
set_option linter.unusedSimpArgs false
set_option linter.unusedVariables false
set_option maxRecDepth 100000
theorem put300 : putL 300 = [172, 2] := by rw [putL_ge (by decide), putL_lt (by decide)]; rfl
theorem lives_c (w : World) : Calls Try.prog 11 #[] w (Tells w (Is (.bool true))) := by
  refine tells_is (strongroomlaw01_lives.calls 12 true w ?_)
  unfold strongroomlaw01_lives.f
  rw [get_f _ (by simp) (by simp) 0 12 (by omega), get_f _ (by simp) (by simp) 0 12 (by omega), obs, obs]
  have h1 := put_f 12 300 [] (by omega) (by decide) (by simp)
  rw [put300] at h1
  have h2 := size_f 12 300 (by omega) (by decide)
  rw [put300] at h2
  rw [show (300 : Int) = ((300 : Nat) : Int) from rfl, h1, obs, if_pos (by decide +kernel), if_pos (by decide +kernel), if_pos (by decide +kernel), h2, obs]
  rfl
theorem small_f (l : List Int) : strongroomlaw01_small.f 2 l [] = some (decide (l.length ≤ 20000)) := by
  unfold strongroomlaw01_small.f
  by_cases h : (l.length : Int) > 20000
  · rw [if_pos h, decide_eq_false (by omega)]; simp only [strongroomlaw01_small.j0, if_true]
  · rw [if_neg h, decide_eq_true (p := l.length ≤ 20000) (by omega), decide_eq_false (by simp)]
    simp only [strongroomlaw01_small.j0]
    rw [if_neg (by simp)]
    simp only [strongroomlaw01_small.l0]
    rw [if_neg (by simp)]
    simp
theorem small_c (A : Option Addr) (c : Nat) (l : List Int) (w : World) (hr : Kd.C (Kd.int .u8) w A l.length l) (hc : l.length ≤ c) (b : Bool) (hb : decide (l.length ≤ 20000) = b) :
    Calls Try.prog 10 #[.slice A l.length c, .slice none 0 0] w (Tells w (Is (.bool b))) := by
  subst hb
  exact tells_is ((strongroomlaw01_small.calls 2 A c l none 0 [] _ w hr hc (Kd.C_nil _ _) (Nat.le_refl _) (small_f l)).mono fun _ _ ⟨h, k⟩ => ⟨h, drawn_below k⟩)
theorem wf_u64 {x : Int} (h : (Lit.int .u64 x).wf = true) : ∃ n : Nat, x = n ∧ n < 18446744073709551616 := by
  simp [Lit.wf, IntKind.min, IntKind.max, IntKind.bits, IntKind.signed] at h
  exact ⟨x.toNat, by omega, by omega⟩
set_option maxHeartbeats 4000000 in
theorem NumPuts_c (w : World) (A : Option Addr) (c : Nat) (l : List Int) (x : Int) (hr : Kd.C (Kd.int .u8) w A l.length l) (hc : l.length ≤ c) (hm : l.length ≤ maxLen) (hy : l.length * 1 ≤ 140737488351232) (hw : ∀ x ∈ l, (Lit.int .u8 x).wf = true) (hx : (Lit.int .u64 x).wf = true) :
    Calls Try.prog 3 #[.slice A l.length c, .int .u64 x] w (Tells w (Is (.bool true))) := by
  obtain ⟨n, rfl, hn⟩ := wf_u64 hx
  have hb := Lib.hid (bytes_of hw)
  clear hw hx
  by_cases h : l.length ≤ 20000
  · have d1 := decide_eq_true h
    go_enter Try.func3, Try.ntmps3
    go_wp2_with fail
    refine (small_c A c l w hr hc true d1).mono ?_
    rintro e w1 ⟨_, rfl, rfl, hg1⟩
    go_wp2_with fail
    apply region_grew [Is _, Is _, Row (l ++ putL n), Is _, Is _, Is _, Is _, Is _, Is _, Is _, Is _, Is _, Is _, Is _] [([(0, none)], none), ([(1, none)], none), ([(9, some 0), (10, some 1)], none), ([(11, some 2)], none), ([(0, none)], none), ([(13, some 4)], none), ([(1, none)], none), ([(15, some 6)], none), ([(14, some 5), (16, some 7)], none), ([(12, some 3), (17, some 8)], none), ([(18, some 9)], none), ([(1, none), (19, some 10)], some (19, true)), ([(20, some 11), (19, some 10)], some (19, true)), ([(1, none), (19, some 10)], some (19, true))] [(11, 2), (9, 0), (10, 1), (12, 3), (13, 4), (14, 5), (15, 6), (16, 7), (17, 8), (18, 9), (19, 10), (20, 11), (21, 12), (22, 13)] rfl (by kernel_rfl) (by kernel_rfl) (show Stable Grew _ from ⟨Is.stable _, Is.stable _, Row.stable _, Is.stable _, Is.stable _, Is.stable _, Is.stable _, Is.stable _, Is.stable _, Is.stable _, Is.stable _, Is.stable _, Is.stable _, Is.stable _, trivial⟩)
    · show OpsHold _ _ _ _ _ _ _ _ _
      refine ⟨fun a_ wx hR hD K hK => ?_, ?_⟩
      · have hG : Grew _ wx := (Grew.drew _).trans hR
        simp [Deps, Dep, at_, Is] at hD
        go_simp
        exact hK _ _ (Grew.refl _) rfl
      refine ⟨fun a_ wx hR hD K hK => ?_, ?_⟩
      · have hG : Grew _ wx := (Grew.drew _).trans hR
        simp [Deps, Dep, at_, Is] at hD
        go_simp
        exact hK _ _ (Grew.refl _) rfl
      refine ⟨fun a_ wx hR hD K hK => ?_, ?_⟩
      · have hG : Grew _ wx := (Grew.drew _).trans hR
        simp [Deps, Dep, at_, Is] at hD
        obtain ⟨hd0, hd1⟩ := hD
        go_simp
        have hcn := put_c A c l n wx (Kd.C_below hr (hg1.trans hG)) hc hn (by omega)
        with_reducible refine hcn.mono ?_
        clear hcn
        rintro e wy ⟨v, rfl, hv, hg⟩
        exact hK _ _ hg hv
      refine ⟨fun a_ wx hR hD K hK => ?_, ?_⟩
      · have hG : Grew _ wx := (Grew.drew _).trans hR
        simp [Deps, Dep, at_, Is] at hD
        obtain ⟨A', c', hv', hc', hC'⟩ := hD
        have hcv := Kd.C_string (P := Try.prog) (c := c') Try.underlying22 Try.underlying5 Try.underlying9 hC'
        rw [List.length_append] at hcv
        go_simp
        exact hK _ _ (Grew.refl _) rfl
      refine ⟨fun a_ wx hR hD K hK => ?_, ?_⟩
      · have hG : Grew _ wx := (Grew.drew _).trans hR
        simp [Deps, Dep, at_, Is] at hD
        go_simp
        exact hK _ _ (Grew.refl _) rfl
      refine ⟨fun a_ wx hR hD K hK => ?_, ?_⟩
      · have hG : Grew _ wx := (Grew.drew _).trans hR
        simp [Deps, Dep, at_, Is] at hD
        have hcv := Kd.C_string (P := Try.prog) (c := c) Try.underlying22 Try.underlying5 Try.underlying9 (Kd.C_below hr (hg1.trans hG))
        go_simp
        exact hK _ _ (Grew.refl _) rfl
      refine ⟨fun a_ wx hR hD K hK => ?_, ?_⟩
      · have hG : Grew _ wx := (Grew.drew _).trans hR
        simp [Deps, Dep, at_, Is] at hD
        go_simp
        exact hK _ _ (Grew.refl _) rfl
      refine ⟨fun a_ wx hR hD K hK => ?_, ?_⟩
      · have hG : Grew _ wx := (Grew.drew _).trans hR
        simp [Deps, Dep, at_, Is] at hD
        go_simp
        have hcn := rput_c n wx hn
        with_reducible refine hcn.mono ?_
        clear hcn
        rintro e wy ⟨v, rfl, hv, hg⟩
        exact hK _ _ hg hv
      refine ⟨fun a_ wx hR hD K hK => ?_, ?_⟩
      · have hG : Grew _ wx := (Grew.drew _).trans hR
        simp [Deps, Dep, at_, Is] at hD
        obtain ⟨hd0, hd1⟩ := hD
        have hs : ¬ (9223372036854775807 < (strOfNums l).size + (strOfNums (putL n)).size) := by rw [str_size, str_size]; have := putL_ten hn; omega
        have e := str_append l (putL n)
        go_simp
        exact hK _ _ (Grew.refl _) rfl
      refine ⟨fun a_ wx hR hD K hK => ?_, ?_⟩
      · have hG : Grew _ wx := (Grew.drew _).trans hR
        simp [Deps, Dep, at_, Is] at hD
        obtain ⟨hd0, hd1⟩ := hD
        go_simp
        exact hK _ _ (Grew.refl _) rfl
      refine ⟨fun a_ wx hR hD K hK => ?_, ?_⟩
      · have hG : Grew _ wx := (Grew.drew _).trans hR
        simp [Deps, Dep, at_, Is] at hD
        go_simp
        exact hK _ _ (Grew.refl _) rfl
      refine ⟨fun a_ wx hR hD => ⟨fun hgd K hK => ?_, fun hgd => ?_⟩, ?_⟩
      · have hG : Grew _ wx := (Grew.drew _).trans hR
        clear hgd
        simp [Deps, Dep, at_, Is] at hD
        obtain ⟨hd0, hd1⟩ := hD
        go_simp
        exact hK _ _ (Grew.refl _) rfl
      · have hG : Grew _ wx := (Grew.drew _).trans hR
        exfalso
        simp [Deps, Dep, at_, Is] at hD
        simp_all
      refine ⟨fun a_ wx hR hD => ⟨fun hgd K hK => ?_, fun hgd => ?_⟩, ?_⟩
      · have hG : Grew _ wx := (Grew.drew _).trans hR
        clear hgd
        simp [Deps, Dep, at_, Is] at hD
        obtain ⟨hd0, hd1⟩ := hD
        go_simp
        have hcn := size_c n wx hn
        with_reducible refine hcn.mono ?_
        clear hcn
        rintro e wy ⟨v, rfl, hv, hg⟩
        exact hK _ _ hg hv
      · have hG : Grew _ wx := (Grew.drew _).trans hR
        exfalso
        simp [Deps, Dep, at_, Is] at hD
        simp_all
      refine ⟨fun a_ wx hR hD => ⟨fun hgd K hK => ?_, fun hgd => ?_⟩, ?_⟩
      · have hG : Grew _ wx := (Grew.drew _).trans hR
        clear hgd
        simp [Deps, Dep, at_, Is] at hD
        obtain ⟨hd0, hd1⟩ := hD
        go_simp
        exact hK _ _ (Grew.refl _) rfl
      · have hG : Grew _ wx := (Grew.drew _).trans hR
        exfalso
        simp [Deps, Dep, at_, Is] at hD
        simp_all
      trivial
    · show EndHold _ _ _ _ _ _ _
      intro v11
      refine end_all (xs := [_, _, _, _, _, _, _, _, _, _, _, _, _]) ⟨rfl, rfl, rfl, rfl, rfl, rfl, rfl, rfl, rfl, rfl, rfl, rfl, rfl, trivial⟩ ?_
      rintro w2 hR1 ⟨-, hrow⟩
      refine ⟨?_⟩
      have hG_w2 : Grew _ w2 := (Grew.drew _).trans hR1
      clear hR1
      simp only [Act.put, List.setIfInBounds_toArray, List.set_cons_succ, List.set_cons_zero, dropN, putEach]
      go_wp2_with fail
      clear hrow
      refine (rput_c n _ hn).mono ?_
      rintro e w3 ⟨_, rfl, rfl, hg3⟩
      have e := str_size (putL n)
      go_wp2_with fail
      clear e
      refine (lives_c _).mono ?_
      rintro e w4 ⟨_, rfl, rfl, hg4⟩
      go_wp2
      go_ret
      exact ⟨_, rfl, rfl, hg1.trans (hG_w2.trans (hg3.trans hg4))⟩
  · have d1 := decide_eq_false h
    go_enter Try.func3, Try.ntmps3
    go_wp2_with fail
    refine (small_c A c l w hr hc false d1).mono ?_
    rintro e w1 ⟨_, rfl, rfl, hg1⟩
    go_wp2_with fail
    refine (lives_c _).mono ?_
    rintro e w2 ⟨_, rfl, rfl, hg2⟩
    go_wp2
    go_ret
    exact ⟨_, rfl, rfl, hg1.trans hg2⟩
set_option maxHeartbeats 4000000 in
theorem NumGets_c (w : World) (A : Option Addr) (c : Nat) (l : List Int) (x : Int) (hr : Kd.C (Kd.int .u8) w A l.length l) (hc : l.length ≤ c) (hm : l.length ≤ maxLen) (hy : l.length * 1 ≤ 140737488351232) (hw : ∀ x ∈ l, (Lit.int .u8 x).wf = true) (hx : (Lit.int .i64 x).wf = true) :
    Calls Try.prog 4 #[.slice A l.length c, .int .i64 x] w (Tells w (Is (.bool true))) := by
  have hb := Lib.hid (bytes_of hw)
  clear hw hx
  by_cases h : l.length ≤ 20000
  · have d1 := decide_eq_true h
    go_enter Try.func4, Try.ntmps4
    go_wp2_with fail
    refine (small_c A c l w hr hc true d1).mono ?_
    rintro e w1 ⟨_, rfl, rfl, hg1⟩
    go_wp2_with fail
    refine (get_c A c l x w1 (Kd.C_below hr hg1) hc (by omega) hb.out).mono ?_
    rintro e w2 ⟨_, rfl, rfl, hg2⟩
    have hcv := Kd.C_string (P := Try.prog) (c := c) Try.underlying22 Try.underlying5 Try.underlying9 (Kd.C_below hr (hg1.trans hg2))
    go_wp2_with fail
    clear hcv
    refine (rget_c (strOfNums l) x w2 (by rw [str_size]; omega)).mono ?_
    rw [bytesOf_str hb.out]
    rintro e w3 ⟨_, rfl, rfl, hg3⟩
    go_wp2_with fail
    refine (lives_c _).mono ?_
    rintro e w4 ⟨_, rfl, rfl, hg4⟩
    go_wp2
    go_ret
    exact ⟨_, rfl, rfl, hg1.trans (hg2.trans (hg3.trans hg4))⟩
  · have d1 := decide_eq_false h
    go_enter Try.func4, Try.ntmps4
    go_wp2_with fail
    refine (small_c A c l w hr hc false d1).mono ?_
    rintro e w1 ⟨_, rfl, rfl, hg1⟩
    go_wp2_with fail
    refine (lives_c _).mono ?_
    rintro e w2 ⟨_, rfl, rfl, hg2⟩
    go_wp2
    go_ret
    exact ⟨_, rfl, rfl, hg1.trans hg2⟩
end Go.Proofs.Ytoolcamnmefpgaa.F
