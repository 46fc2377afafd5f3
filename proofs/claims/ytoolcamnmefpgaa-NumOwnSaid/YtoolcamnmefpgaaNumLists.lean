/- The law NumLists: its call returns true, for all bytes, lists of texts, places and bounds. -/
import Derived.Test.YtoolcamnmefpgaaNumLl
namespace Go.Proofs.Ytoolcamnmefpgaa.F
open Go Go.RowKit Go.Proofs.YtoolcamnmefpgaaW.PrintWords Go.Proofs.YtoolcamnmefpgaaW.PrintLast Go.Proofs.YtoolcamnmefpgaaW.PrintMore Go.Proofs.YtoolcamnmefpgaaM Go.Proofs.YtoolcamnmefpgaaR
set_option linter.unusedSimpArgs false
set_option linter.unusedVariables false
set_option maxRecDepth 100000
set_option maxHeartbeats 4000000 in
theorem NumLists_c (w : World) (A : Option Addr) (c : Nat) (l : List Int) (A1 : Option Addr) (c1 : Nat) (ss : List ByteArray) (x y z : Int) (hr : Kd.C (Kd.int .u8) w A l.length l) (hc : l.length ≤ c) (hm : l.length ≤ maxLen) (hy : l.length * 1 ≤ 140737488351232) (hw : ∀ x ∈ l, (Lit.int .u8 x).wf = true)
    (hr1 : Kd.C Kd.string w A1 ss.length ss) (hc1 : ss.length ≤ c1) (hss : ∀ s ∈ ss, s.size ≤ 140737488351232) (hx : (Lit.int .i64 x).wf = true) (hyy : (Lit.int .i64 y).wf = true) (hzz : (Lit.int .i64 z).wf = true) :
    Calls Try.prog 8 #[.slice A l.length c, .slice A1 ss.length c1, .agg #[.int .i64 x, .int .i64 y, .int .i64 z]] w (Tells w (Is (.bool true))) := by
  have hb := Lib.hid (bytes_of hw)
  obtain ⟨y0, y1⟩ := wf_i64 hyy
  obtain ⟨z0, z1⟩ := wf_i64 hzz
  obtain ⟨b, hbt, hsm⟩ := smalls_c A c l A1 c1 ss hss hc hc1
  clear hw hx hyy hzz hss
  have HS := Lib.hid hsm
  have HB := Lib.hid hbt
  clear hsm hbt
  go_enter Try.func8, Try.ntmps8
  go_wp2_with fail
  obtain ⟨W, hW⟩ : ∃ W : World, W = w.alloc (Obj.cells #[Value.int .i64 x, Value.int .i64 y, Value.int .i64 z] 45) := ⟨_, rfl⟩
  rw [← hW]
  have hg0 : Grew w W := by rw [hW]; exact Grew.alloc _ _
  have D0 := Lib.hid (show W.cell? ⟨w.heap.size, 0, none⟩ = some (.int .i64 x) by rw [hW]; go_simp)
  have D1 := Lib.hid (show W.cell? ⟨w.heap.size, 1, none⟩ = some (.int .i64 y) by rw [hW]; go_simp)
  have D2 := Lib.hid (show W.cell? ⟨w.heap.size, 2, none⟩ = some (.int .i64 z) by rw [hW]; go_simp)
  clear hW
  refine (HS.out W (Kd.C_below hr hg0) (Kd.C_below hr1 hg0)).mono ?_
  rintro e w1 ⟨_, rfl, rfl, hg1⟩
  clear HS
  cases b with
  | false =>
    go_wp2_with fail
    refine (lives_c _).mono ?_
    rintro e w2 ⟨_, rfl, rfl, hg2⟩
    go_wp2
    go_ret
    exact ⟨_, rfl, rfl, hg0.trans (hg1.trans hg2)⟩
  | true =>
    obtain ⟨hl1, hl2, hl3⟩ := HB.out rfl
    clear HB
    have E0 := Lib.hid (pw_cell_below hg1 D0.out)
    have E1 := Lib.hid (pw_cell_below hg1 D1.out)
    have E2 := Lib.hid (pw_cell_below hg1 D2.out)
    have hgw := hg0.trans hg1
    clear D0 D1 D2 hg0 hg1
    have e0 := E0.out
    have e1 := E1.out
    have e2 := E2.out
    go_wp2_with fail
    clear e0 e1 e2
    refine (getLL_c A c l x y z w1 (Kd.C_below hr hgw) hc (by omega) hb.out y0 y1 z0 z1).mono ?_
    rintro e w2 ⟨_, rfl, ⟨B, d, rfl, hd, hB⟩, hg2⟩
    have e0 := pw_cell_below hg2 E0.out
    have e1 := pw_cell_below hg2 E1.out
    have e2 := pw_cell_below hg2 E2.out
    have hgw2 := hgw.trans hg2
    clear hgw hg2 E0 E1 E2
    have hcv := Kd.C_string (P := Try.prog) (c := c) Try.underlying22 Try.underlying5 Try.underlying9 (Kd.C_below hr hgw2)
    go_wp2_with fail
    clear hcv e0 e1 e2
    have hrt := rgetLL_c (strOfNums l) x y z w2 (by rw [str_size]; omega) y1 z1
    rw [bytesOf_str hb.out] at hrt
    refine hrt.mono ?_
    clear hrt
    rintro e w3 ⟨_, rfl, ⟨B', d', rfl, hd', hB'⟩, hg3⟩
    have hgw3 := hgw2.trans hg3
    have hB3 := Kd.C_below hB hg3
    clear hgw2 hg3 hB
    go_wp2_with fail
    have hrl : (getLL l x y z).1.length ≤ 9223372036854775807 := hB3.2.1
    generalize getLL l x y z = r at *
    apply region_grew [Is _, Is _, Row (l ++ listL ss), Is _, Is _, Is _, Is _, Is _, Is _, Is _, Is _, Is _, Is _, Is _, Is _, Is _, Is _, Is _, Is _, Is _, Is _, Is _, Is _] [([(0, none)], none), ([(1, none)], none), ([(43, some 0), (44, some 1)], none), ([(45, some 2)], none), ([(0, none)], none), ([(47, some 4)], none), ([(1, none)], none), ([(49, some 6)], none), ([(48, some 5), (50, some 7)], none), ([(46, some 3), (51, some 8)], none), ([(52, some 9)], none), ([(7, none), (53, some 10)], some (53, true)), ([(10, none), (53, some 10)], some (53, true)), ([(54, some 11), (55, some 12), (53, some 10)], some (53, true)), ([(53, some 10), (56, some 13)], none), ([(57, some 14)], none), ([(8, none), (58, some 15)], some (58, true)), ([(11, none), (58, some 15)], some (58, true)), ([(59, some 16), (60, some 17), (58, some 15)], some (58, true)), ([(58, some 15), (61, some 18)], none), ([(62, some 19)], none), ([(9, none), (63, some 20)], some (63, true)), ([(12, none), (63, some 20)], some (63, true))] [(45, 2), (43, 0), (44, 1), (46, 3), (47, 4), (48, 5), (49, 6), (50, 7), (51, 8), (52, 9), (53, 10), (54, 11), (55, 12), (56, 13), (57, 14), (58, 15), (59, 16), (60, 17), (61, 18), (62, 19), (63, 20), (64, 21), (65, 22)] rfl (by kernel_rfl) (by kernel_rfl) (show Stable Grew _ from ⟨Is.stable _, Is.stable _, Row.stable _, Is.stable _, Is.stable _, Is.stable _, Is.stable _, Is.stable _, Is.stable _, Is.stable _, Is.stable _, Is.stable _, Is.stable _, Is.stable _, Is.stable _, Is.stable _, Is.stable _, Is.stable _, Is.stable _, Is.stable _, Is.stable _, Is.stable _, Is.stable _, trivial⟩)
    · show OpsHold _ _ _ _ _ _ _ _ _
      refine ⟨fun a_ wx hR hD K hK => ?_, ?_⟩
      · have hG : Grew _ wx := (Grew.drew _).trans hR
        simp [Deps, Dep, at_, Is] at hD
        go_simp
        exact hK _ _ (Grew.refl _) rfl
      refine ⟨fun a_ wx hR hD K hK => ?_, ?_⟩
      · have hG : Grew _ wx := (Grew.drew _).trans hR
        simp [Deps, Dep, at_, Is] at hD
        go_simp
        exact hK _ _ (Grew.refl _) rfl
      refine ⟨fun a_ wx hR hD K hK => ?_, ?_⟩
      · have hG : Grew _ wx := (Grew.drew _).trans hR
        simp [Deps, Dep, at_, Is] at hD
        obtain ⟨hd0, hd1⟩ := hD
        go_simp
        have hcn := putLL_c A c l A1 c1 ss wx (Kd.C_below hr (hgw3.trans hG)) hc (Kd.C_below hr1 (hgw3.trans hG)) hc1 (by omega) hl3 hl2
        with_reducible refine hcn.mono ?_
        clear hcn
        rintro e wy ⟨v, rfl, hv, hg⟩
        exact hK _ _ hg hv
      refine ⟨fun a_ wx hR hD K hK => ?_, ?_⟩
      · have hG : Grew _ wx := (Grew.drew _).trans hR
        simp [Deps, Dep, at_, Is] at hD
        obtain ⟨A', c', hv', hc', hC'⟩ := hD
        have hcv := Kd.C_string (P := Try.prog) (c := c') Try.underlying22 Try.underlying5 Try.underlying9 hC'
        rw [List.length_append] at hcv
        go_simp
        exact hK _ _ (Grew.refl _) rfl
      refine ⟨fun a_ wx hR hD K hK => ?_, ?_⟩
      · have hG : Grew _ wx := (Grew.drew _).trans hR
        simp [Deps, Dep, at_, Is] at hD
        go_simp
        exact hK _ _ (Grew.refl _) rfl
      refine ⟨fun a_ wx hR hD K hK => ?_, ?_⟩
      · have hG : Grew _ wx := (Grew.drew _).trans hR
        simp [Deps, Dep, at_, Is] at hD
        have hcv := Kd.C_string (P := Try.prog) (c := c) Try.underlying22 Try.underlying5 Try.underlying9 (Kd.C_below hr (hgw3.trans hG))
        go_simp
        exact hK _ _ (Grew.refl _) rfl
      refine ⟨fun a_ wx hR hD K hK => ?_, ?_⟩
      · have hG : Grew _ wx := (Grew.drew _).trans hR
        simp [Deps, Dep, at_, Is] at hD
        go_simp
        exact hK _ _ (Grew.refl _) rfl
      refine ⟨fun a_ wx hR hD K hK => ?_, ?_⟩
      · have hG : Grew _ wx := (Grew.drew _).trans hR
        simp [Deps, Dep, at_, Is] at hD
        go_simp
        have hcn := rlist_c A1 c1 ss wx (Kd.C_below hr1 (hgw3.trans hG)) hc1 hl3 hl2
        with_reducible refine hcn.mono ?_
        clear hcn
        rintro e wy ⟨v, rfl, hv, hg⟩
        exact hK _ _ hg hv
      refine ⟨fun a_ wx hR hD K hK => ?_, ?_⟩
      · have hG : Grew _ wx := (Grew.drew _).trans hR
        simp [Deps, Dep, at_, Is] at hD
        obtain ⟨hd0, hd1⟩ := hD
        have hz : ¬ (9223372036854775807 < (strOfNums l).size + (strOfNums (listL ss)).size) := by rw [str_size, str_size]; have := cat_len ss (by omega); have := putL_ten (n := ss.length) (by omega); simp only [listL, List.length_append]; omega
        have e : strOfNums l ++ strOfNums (listL ss) = strOfNums (l ++ listL ss) := by rw [str_append]
        go_simp
        exact hK _ _ (Grew.refl _) rfl
      refine ⟨fun a_ wx hR hD K hK => ?_, ?_⟩
      · have hG : Grew _ wx := (Grew.drew _).trans hR
        simp [Deps, Dep, at_, Is] at hD
        obtain ⟨hd0, hd1⟩ := hD
        go_simp
        exact hK _ _ (Grew.refl _) rfl
      refine ⟨fun a_ wx hR hD K hK => ?_, ?_⟩
      · have hG : Grew _ wx := (Grew.drew _).trans hR
        simp [Deps, Dep, at_, Is] at hD
        go_simp
        exact hK _ _ (Grew.refl _) rfl
      refine ⟨fun a_ wx hR hD => ⟨fun hgd K hK => ?_, fun hgd => ?_⟩, ?_⟩
      · have hG : Grew _ wx := (Grew.drew _).trans hR
        clear hgd
        simp [Deps, Dep, at_, Is] at hD
        obtain ⟨hd0, hd1⟩ := hD
        go_simp
        exact hK _ _ (Grew.refl _) rfl
      · have hG : Grew _ wx := (Grew.drew _).trans hR
        exfalso
        simp [Deps, Dep, at_, Is] at hD
        simp_all
      refine ⟨fun a_ wx hR hD => ⟨fun hgd K hK => ?_, fun hgd => ?_⟩, ?_⟩
      · have hG : Grew _ wx := (Grew.drew _).trans hR
        clear hgd
        simp [Deps, Dep, at_, Is] at hD
        obtain ⟨hd0, hd1⟩ := hD
        go_simp
        exact hK _ _ (Grew.refl _) rfl
      · have hG : Grew _ wx := (Grew.drew _).trans hR
        exfalso
        simp [Deps, Dep, at_, Is] at hD
        simp_all
      refine ⟨fun a_ wx hR hD => ⟨fun hgd K hK => ?_, fun hgd => ?_⟩, ?_⟩
      · have hG : Grew _ wx := (Grew.drew _).trans hR
        clear hgd
        simp [Deps, Dep, at_, Is] at hD
        obtain ⟨hd0, hd1, hd2⟩ := hD
        go_simp
        have hcn := same_c B d B' d' r.1 wx (Kd.C_below hB3 hG) hd (Kd.C_below hB' hG) hd' hrl
        with_reducible refine hcn.mono ?_
        clear hcn
        rintro e wy ⟨v, rfl, hv, hg⟩
        exact hK _ _ hg hv
      · have hG : Grew _ wx := (Grew.drew _).trans hR
        exfalso
        simp [Deps, Dep, at_, Is] at hD
        simp_all
      refine ⟨fun a_ wx hR hD K hK => ?_, ?_⟩
      · have hG : Grew _ wx := (Grew.drew _).trans hR
        simp [Deps, Dep, at_, Is] at hD
        obtain ⟨hd0, hd1⟩ := hD
        go_simp
        exact hK _ _ (Grew.refl _) rfl
      refine ⟨fun a_ wx hR hD K hK => ?_, ?_⟩
      · have hG : Grew _ wx := (Grew.drew _).trans hR
        simp [Deps, Dep, at_, Is] at hD
        go_simp
        exact hK _ _ (Grew.refl _) rfl
      refine ⟨fun a_ wx hR hD => ⟨fun hgd K hK => ?_, fun hgd => ?_⟩, ?_⟩
      · have hG : Grew _ wx := (Grew.drew _).trans hR
        clear hgd
        simp [Deps, Dep, at_, Is] at hD
        obtain ⟨hd0, hd1⟩ := hD
        go_simp
        exact hK _ _ (Grew.refl _) rfl
      · have hG : Grew _ wx := (Grew.drew _).trans hR
        exfalso
        simp [Deps, Dep, at_, Is] at hD
        simp_all
      refine ⟨fun a_ wx hR hD => ⟨fun hgd K hK => ?_, fun hgd => ?_⟩, ?_⟩
      · have hG : Grew _ wx := (Grew.drew _).trans hR
        clear hgd
        simp [Deps, Dep, at_, Is] at hD
        obtain ⟨hd0, hd1⟩ := hD
        go_simp
        exact hK _ _ (Grew.refl _) rfl
      · have hG : Grew _ wx := (Grew.drew _).trans hR
        exfalso
        simp [Deps, Dep, at_, Is] at hD
        simp_all
      refine ⟨fun a_ wx hR hD => ⟨fun hgd K hK => ?_, fun hgd => ?_⟩, ?_⟩
      · have hG : Grew _ wx := (Grew.drew _).trans hR
        clear hgd
        simp [Deps, Dep, at_, Is] at hD
        obtain ⟨hd0, hd1, hd2⟩ := hD
        go_simp
        exact hK _ _ (Grew.refl _) rfl
      · have hG : Grew _ wx := (Grew.drew _).trans hR
        exfalso
        simp [Deps, Dep, at_, Is] at hD
        simp_all
      refine ⟨fun a_ wx hR hD K hK => ?_, ?_⟩
      · have hG : Grew _ wx := (Grew.drew _).trans hR
        simp [Deps, Dep, at_, Is] at hD
        obtain ⟨hd0, hd1⟩ := hD
        go_simp
        exact hK _ _ (Grew.refl _) rfl
      refine ⟨fun a_ wx hR hD K hK => ?_, ?_⟩
      · have hG : Grew _ wx := (Grew.drew _).trans hR
        simp [Deps, Dep, at_, Is] at hD
        go_simp
        exact hK _ _ (Grew.refl _) rfl
      refine ⟨fun a_ wx hR hD => ⟨fun hgd K hK => ?_, fun hgd => ?_⟩, ?_⟩
      · have hG : Grew _ wx := (Grew.drew _).trans hR
        clear hgd
        simp [Deps, Dep, at_, Is] at hD
        obtain ⟨hd0, hd1⟩ := hD
        go_simp
        exact hK _ _ (Grew.refl _) rfl
      · have hG : Grew _ wx := (Grew.drew _).trans hR
        exfalso
        simp [Deps, Dep, at_, Is] at hD
        simp_all
      refine ⟨fun a_ wx hR hD => ⟨fun hgd K hK => ?_, fun hgd => ?_⟩, ?_⟩
      · have hG : Grew _ wx := (Grew.drew _).trans hR
        clear hgd
        simp [Deps, Dep, at_, Is] at hD
        obtain ⟨hd0, hd1⟩ := hD
        go_simp
        exact hK _ _ (Grew.refl _) rfl
      · have hG : Grew _ wx := (Grew.drew _).trans hR
        exfalso
        simp [Deps, Dep, at_, Is] at hD
        simp_all
      trivial
    · show EndHold _ _ _ _ _ _ _
      intro v45
      refine end_all (xs := [_, _, _, _, _, _, _, _, _, _, _, _, _, _, _, _, _, _, _, _, _, _]) ⟨rfl, rfl, rfl, rfl, rfl, rfl, rfl, rfl, rfl, rfl, rfl, rfl, rfl, rfl, rfl, rfl, rfl, rfl, rfl, rfl, rfl, rfl, trivial⟩ ?_
      rintro w4 hR1 ⟨-, hrow⟩
      refine ⟨?_⟩
      have hG_w4 : Grew _ w4 := (Grew.drew _).trans hR1
      clear hR1
      simp only [Act.put, List.setIfInBounds_toArray, List.set_cons_succ, List.set_cons_zero, dropN, putEach]
      clear hrow
      go_wp2_with fail
      refine (lives_c _).mono ?_
      rintro e w6 ⟨_, rfl, rfl, hg6⟩
      go_wp2
      go_ret
      exact ⟨_, rfl, rfl, hgw3.trans (hG_w4.trans hg6)⟩
end Go.Proofs.Ytoolcamnmefpgaa.F
