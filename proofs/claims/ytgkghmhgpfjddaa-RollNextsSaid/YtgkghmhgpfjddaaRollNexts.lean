/- The law RollNexts: its call returns true, for all sums, sizes and bytes: Next and Join of the program and of the reference are the same. -/
import Derived.Test.YtgkghmhgpfjddaaRollD
import Derived.Test.YtgkghmhgpfjddaaRollSums
namespace Go.Proofs.Ytgkghmhgpfjddaa.F
open Go Go.RowKit Go.Proofs.YtgkghmhgpfjddaaW.PrintWords Go.Proofs.YtgkghmhgpfjddaaW.PrintLast Go.Proofs.YtgkghmhgpfjddaaW.PrintMore Go.Proofs.YtgkghmhgpfjddaaM Go.Proofs.YtgkghmhgpfjddaaR
set_option linter.unusedSimpArgs false
set_option linter.unusedVariables false
set_option maxRecDepth 100000
theorem wf_u8 {x : Int} (h : (Lit.int .u8 x).wf = true) : 0 ≤ x ∧ x < 256 := by
  simp [Lit.wf, IntKind.min, IntKind.max, IntKind.bits, IntKind.signed] at h; omega
theorem wf_u32 {x : Int} (h : (Lit.int .u32 x).wf = true) : 0 ≤ x ∧ x < 4294967296 := by
  simp [Lit.wf, IntKind.min, IntKind.max, IntKind.bits, IntKind.signed] at h; omega
set_option maxHeartbeats 4000000 in
theorem RollNexts_c (w : World) (x0 x1 z c0 c1 : Int) (h0 : (Lit.int .u32 x0).wf = true) (h1 : (Lit.int .u32 x1).wf = true) (ha : (Lit.int .i64 z).wf = true) (g0 : (Lit.int .u8 c0).wf = true) (g1 : (Lit.int .u8 c1).wf = true) :
    Calls Try.prog 7 #[.agg #[.int .u32 x0, .int .u32 x1], .int .i64 z, .agg #[.int .u8 c0, .int .u8 c1]] w (Tells w (Is (.bool true))) := by
  obtain ⟨p0, p1⟩ := wf_u32 h0
  obtain ⟨q0, q1⟩ := wf_u32 h1
  obtain ⟨r0, r1⟩ := wf_u8 g0
  obtain ⟨s0, s1⟩ := wf_u8 g1
  clear h0 h1 ha g0 g1
  go_enter Try.func7, Try.ntmps7
  go_wp2_with fail
  obtain ⟨W, hW⟩ : ∃ W : World, W = (w.alloc (Obj.cells #[Value.int IntKind.u32 x0, Value.int IntKind.u32 x1] 33)).alloc (Obj.cells #[Value.int IntKind.u8 c0, Value.int IntKind.u8 c1] 34) := ⟨_, rfl⟩
  rw [← hW]
  have hg0 : Grew w W := by rw [hW]; exact (Grew.alloc _ _).trans (Grew.alloc _ _)
  have D00 := Lib.hid (show W.cell? ⟨w.heap.size, 0, none⟩ = some (.int .u32 x0) by rw [hW]; go_simp)
  have D01 := Lib.hid (show W.cell? ⟨w.heap.size, 1, none⟩ = some (.int .u32 x1) by rw [hW]; go_simp)
  have D10 := Lib.hid (show W.cell? ⟨w.heap.size + 1, 0, none⟩ = some (.int .u8 c0) by rw [hW]; go_simp)
  have D11 := Lib.hid (show W.cell? ⟨w.heap.size + 1, 1, none⟩ = some (.int .u8 c1) by rw [hW]; go_simp)
  clear hW
  apply region_grew [Is _, Is _, Is _, Is _, Is _, Is _, Is _, Is _, Is _, Is _, Is _, Is _, Is _, Is _, Is _, Is _, Is _, Is _, Is _, Is _, Is _, Is _, Is _, Is _, Is _, Is _, Is _, Is _, Is _] [([(3, none)], none), ([(7, some 0)], none), ([(1, none)], none), ([(5, none)], none), ([(10, some 3)], none), ([(5, none)], none), ([(12, some 5)], none), ([(8, some 1), (9, some 2), (11, some 4), (13, some 6)], none), ([(3, none)], none), ([(15, some 8)], none), ([(1, none)], none), ([(5, none)], none), ([(18, some 11)], none), ([(5, none)], none), ([(20, some 13)], none), ([(16, some 9), (17, some 10), (19, some 12), (21, some 14)], none), ([(14, some 7), (22, some 15)], none), ([(23, some 16)], none), ([(3, none), (24, some 17)], some (24, true)), ([(25, some 18), (24, some 17)], some (24, true)), ([(3, none), (24, some 17)], some (24, true)), ([(27, some 20), (24, some 17)], some (24, true)), ([(1, none), (24, some 17)], some (24, true)), ([(26, some 19), (28, some 21), (29, some 22), (24, some 17)], some (24, true)), ([(3, none), (24, some 17)], some (24, true)), ([(31, some 24), (24, some 17)], some (24, true)), ([(3, none), (24, some 17)], some (24, true)), ([(33, some 26), (24, some 17)], some (24, true)), ([(1, none), (24, some 17)], some (24, true))] [(7, 0), (8, 1), (9, 2), (10, 3), (11, 4), (12, 5), (13, 6), (14, 7), (15, 8), (16, 9), (17, 10), (18, 11), (19, 12), (20, 13), (21, 14), (22, 15), (23, 16), (24, 17), (25, 18), (26, 19), (27, 20), (28, 21), (29, 22), (30, 23), (31, 24), (32, 25), (33, 26), (34, 27), (35, 28)] rfl (by kernel_rfl) (by kernel_rfl) (show Stable Grew _ from ⟨Is.stable _, Is.stable _, Is.stable _, Is.stable _, Is.stable _, Is.stable _, Is.stable _, Is.stable _, Is.stable _, Is.stable _, Is.stable _, Is.stable _, Is.stable _, Is.stable _, Is.stable _, Is.stable _, Is.stable _, Is.stable _, Is.stable _, Is.stable _, Is.stable _, Is.stable _, Is.stable _, Is.stable _, Is.stable _, Is.stable _, Is.stable _, Is.stable _, Is.stable _, trivial⟩)
  · show OpsHold _ _ _ _ _ _ _ _ _
    refine ⟨fun a_ wx hR hD K hK => ?_, ?_⟩
    · have hG : Grew _ wx := (Grew.drew _).trans hR
      simp [Deps, Dep, at_, Is] at hD
      go_simp
      exact hK _ _ (Grew.refl _) rfl
    refine ⟨fun a_ wx hR hD K hK => ?_, ?_⟩
    · have hG : Grew _ wx := (Grew.drew _).trans hR
      simp [Deps, Dep, at_, Is] at hD
      have e := pw_cell_below hG D00.out
      go_simp
      exact hK _ _ (Grew.refl _) rfl
    refine ⟨fun a_ wx hR hD K hK => ?_, ?_⟩
    · have hG : Grew _ wx := (Grew.drew _).trans hR
      simp [Deps, Dep, at_, Is] at hD
      go_simp
      exact hK _ _ (Grew.refl _) rfl
    refine ⟨fun a_ wx hR hD K hK => ?_, ?_⟩
    · have hG : Grew _ wx := (Grew.drew _).trans hR
      simp [Deps, Dep, at_, Is] at hD
      go_simp
      exact hK _ _ (Grew.refl _) rfl
    refine ⟨fun a_ wx hR hD K hK => ?_, ?_⟩
    · have hG : Grew _ wx := (Grew.drew _).trans hR
      simp [Deps, Dep, at_, Is] at hD
      have e := pw_cell_below hG D10.out
      go_simp
      exact hK _ _ (Grew.refl _) rfl
    refine ⟨fun a_ wx hR hD K hK => ?_, ?_⟩
    · have hG : Grew _ wx := (Grew.drew _).trans hR
      simp [Deps, Dep, at_, Is] at hD
      go_simp
      exact hK _ _ (Grew.refl _) rfl
    refine ⟨fun a_ wx hR hD K hK => ?_, ?_⟩
    · have hG : Grew _ wx := (Grew.drew _).trans hR
      simp [Deps, Dep, at_, Is] at hD
      have e := pw_cell_below hG D11.out
      go_simp
      exact hK _ _ (Grew.refl _) rfl
    refine ⟨fun a_ wx hR hD K hK => ?_, ?_⟩
    · have hG : Grew _ wx := (Grew.drew _).trans hR
      simp [Deps, Dep, at_, Is] at hD
      obtain ⟨hd0, hd1, hd2, hd3⟩ := hD
      go_simp
      with_reducible refine (next_c x0 z c0 c1 _ p0 p1 r0 r1 s0 s1).mono ?_
      rintro e wy ⟨v, rfl, hv, hg⟩
      exact hK _ _ hg hv
    refine ⟨fun a_ wx hR hD K hK => ?_, ?_⟩
    · have hG : Grew _ wx := (Grew.drew _).trans hR
      simp [Deps, Dep, at_, Is] at hD
      go_simp
      exact hK _ _ (Grew.refl _) rfl
    refine ⟨fun a_ wx hR hD K hK => ?_, ?_⟩
    · have hG : Grew _ wx := (Grew.drew _).trans hR
      simp [Deps, Dep, at_, Is] at hD
      have e := pw_cell_below hG D00.out
      go_simp
      exact hK _ _ (Grew.refl _) rfl
    refine ⟨fun a_ wx hR hD K hK => ?_, ?_⟩
    · have hG : Grew _ wx := (Grew.drew _).trans hR
      simp [Deps, Dep, at_, Is] at hD
      go_simp
      exact hK _ _ (Grew.refl _) rfl
    refine ⟨fun a_ wx hR hD K hK => ?_, ?_⟩
    · have hG : Grew _ wx := (Grew.drew _).trans hR
      simp [Deps, Dep, at_, Is] at hD
      go_simp
      exact hK _ _ (Grew.refl _) rfl
    refine ⟨fun a_ wx hR hD K hK => ?_, ?_⟩
    · have hG : Grew _ wx := (Grew.drew _).trans hR
      simp [Deps, Dep, at_, Is] at hD
      have e := pw_cell_below hG D10.out
      go_simp
      exact hK _ _ (Grew.refl _) rfl
    refine ⟨fun a_ wx hR hD K hK => ?_, ?_⟩
    · have hG : Grew _ wx := (Grew.drew _).trans hR
      simp [Deps, Dep, at_, Is] at hD
      go_simp
      exact hK _ _ (Grew.refl _) rfl
    refine ⟨fun a_ wx hR hD K hK => ?_, ?_⟩
    · have hG : Grew _ wx := (Grew.drew _).trans hR
      simp [Deps, Dep, at_, Is] at hD
      have e := pw_cell_below hG D11.out
      go_simp
      exact hK _ _ (Grew.refl _) rfl
    refine ⟨fun a_ wx hR hD K hK => ?_, ?_⟩
    · have hG : Grew _ wx := (Grew.drew _).trans hR
      simp [Deps, Dep, at_, Is] at hD
      obtain ⟨hd0, hd1, hd2, hd3⟩ := hD
      go_simp
      with_reducible refine (rnext_c x0 z c0 c1 _ p0 p1 r0 r1 s0 s1).mono ?_
      rintro e wy ⟨v, rfl, hv, hg⟩
      exact hK _ _ hg hv
    refine ⟨fun a_ wx hR hD K hK => ?_, ?_⟩
    · have hG : Grew _ wx := (Grew.drew _).trans hR
      simp [Deps, Dep, at_, Is] at hD
      obtain ⟨hd0, hd1⟩ := hD
      go_simp
      exact hK _ _ (Grew.refl _) rfl
    refine ⟨fun a_ wx hR hD K hK => ?_, ?_⟩
    · have hG : Grew _ wx := (Grew.drew _).trans hR
      simp [Deps, Dep, at_, Is] at hD
      go_simp
      exact hK _ _ (Grew.refl _) rfl
    refine ⟨fun a_ wx hR hD => ⟨fun hgd K hK => ?_, fun hgd => ?_⟩, ?_⟩
    · have hG : Grew _ wx := (Grew.drew _).trans hR
      clear hgd
      simp [Deps, Dep, at_, Is] at hD
      obtain ⟨hd0, hd1⟩ := hD
      go_simp
      exact hK _ _ (Grew.refl _) rfl
    · have hG : Grew _ wx := (Grew.drew _).trans hR
      exfalso
      simp [Deps, Dep, at_, Is] at hD
      simp_all
    refine ⟨fun a_ wx hR hD => ⟨fun hgd K hK => ?_, fun hgd => ?_⟩, ?_⟩
    · have hG : Grew _ wx := (Grew.drew _).trans hR
      clear hgd
      simp [Deps, Dep, at_, Is] at hD
      obtain ⟨hd0, hd1⟩ := hD
      have e := pw_cell_below hG D00.out
      go_simp
      exact hK _ _ (Grew.refl _) rfl
    · have hG : Grew _ wx := (Grew.drew _).trans hR
      exfalso
      simp [Deps, Dep, at_, Is] at hD
      simp_all
    refine ⟨fun a_ wx hR hD => ⟨fun hgd K hK => ?_, fun hgd => ?_⟩, ?_⟩
    · have hG : Grew _ wx := (Grew.drew _).trans hR
      clear hgd
      simp [Deps, Dep, at_, Is] at hD
      obtain ⟨hd0, hd1⟩ := hD
      go_simp
      exact hK _ _ (Grew.refl _) rfl
    · have hG : Grew _ wx := (Grew.drew _).trans hR
      exfalso
      simp [Deps, Dep, at_, Is] at hD
      simp_all
    refine ⟨fun a_ wx hR hD => ⟨fun hgd K hK => ?_, fun hgd => ?_⟩, ?_⟩
    · have hG : Grew _ wx := (Grew.drew _).trans hR
      clear hgd
      simp [Deps, Dep, at_, Is] at hD
      obtain ⟨hd0, hd1⟩ := hD
      have e := pw_cell_below hG D01.out
      go_simp
      exact hK _ _ (Grew.refl _) rfl
    · have hG : Grew _ wx := (Grew.drew _).trans hR
      exfalso
      simp [Deps, Dep, at_, Is] at hD
      simp_all
    refine ⟨fun a_ wx hR hD => ⟨fun hgd K hK => ?_, fun hgd => ?_⟩, ?_⟩
    · have hG : Grew _ wx := (Grew.drew _).trans hR
      clear hgd
      simp [Deps, Dep, at_, Is] at hD
      obtain ⟨hd0, hd1⟩ := hD
      go_simp
      exact hK _ _ (Grew.refl _) rfl
    · have hG : Grew _ wx := (Grew.drew _).trans hR
      exfalso
      simp [Deps, Dep, at_, Is] at hD
      simp_all
    refine ⟨fun a_ wx hR hD => ⟨fun hgd K hK => ?_, fun hgd => ?_⟩, ?_⟩
    · have hG : Grew _ wx := (Grew.drew _).trans hR
      clear hgd
      simp [Deps, Dep, at_, Is] at hD
      obtain ⟨hd0, hd1, hd2, hd3⟩ := hD
      go_simp
      with_reducible refine (join_c x0 x1 z _ p0 p1 q0 q1).mono ?_
      rintro e wy ⟨v, rfl, hv, hg⟩
      exact hK _ _ hg hv
    · have hG : Grew _ wx := (Grew.drew _).trans hR
      exfalso
      simp [Deps, Dep, at_, Is] at hD
      simp_all
    refine ⟨fun a_ wx hR hD => ⟨fun hgd K hK => ?_, fun hgd => ?_⟩, ?_⟩
    · have hG : Grew _ wx := (Grew.drew _).trans hR
      clear hgd
      simp [Deps, Dep, at_, Is] at hD
      obtain ⟨hd0, hd1⟩ := hD
      go_simp
      exact hK _ _ (Grew.refl _) rfl
    · have hG : Grew _ wx := (Grew.drew _).trans hR
      exfalso
      simp [Deps, Dep, at_, Is] at hD
      simp_all
    refine ⟨fun a_ wx hR hD => ⟨fun hgd K hK => ?_, fun hgd => ?_⟩, ?_⟩
    · have hG : Grew _ wx := (Grew.drew _).trans hR
      clear hgd
      simp [Deps, Dep, at_, Is] at hD
      obtain ⟨hd0, hd1⟩ := hD
      have e := pw_cell_below hG D00.out
      go_simp
      exact hK _ _ (Grew.refl _) rfl
    · have hG : Grew _ wx := (Grew.drew _).trans hR
      exfalso
      simp [Deps, Dep, at_, Is] at hD
      simp_all
    refine ⟨fun a_ wx hR hD => ⟨fun hgd K hK => ?_, fun hgd => ?_⟩, ?_⟩
    · have hG : Grew _ wx := (Grew.drew _).trans hR
      clear hgd
      simp [Deps, Dep, at_, Is] at hD
      obtain ⟨hd0, hd1⟩ := hD
      go_simp
      exact hK _ _ (Grew.refl _) rfl
    · have hG : Grew _ wx := (Grew.drew _).trans hR
      exfalso
      simp [Deps, Dep, at_, Is] at hD
      simp_all
    refine ⟨fun a_ wx hR hD => ⟨fun hgd K hK => ?_, fun hgd => ?_⟩, ?_⟩
    · have hG : Grew _ wx := (Grew.drew _).trans hR
      clear hgd
      simp [Deps, Dep, at_, Is] at hD
      obtain ⟨hd0, hd1⟩ := hD
      have e := pw_cell_below hG D01.out
      go_simp
      exact hK _ _ (Grew.refl _) rfl
    · have hG : Grew _ wx := (Grew.drew _).trans hR
      exfalso
      simp [Deps, Dep, at_, Is] at hD
      simp_all
    refine ⟨fun a_ wx hR hD => ⟨fun hgd K hK => ?_, fun hgd => ?_⟩, ?_⟩
    · have hG : Grew _ wx := (Grew.drew _).trans hR
      clear hgd
      simp [Deps, Dep, at_, Is] at hD
      obtain ⟨hd0, hd1⟩ := hD
      go_simp
      exact hK _ _ (Grew.refl _) rfl
    · have hG : Grew _ wx := (Grew.drew _).trans hR
      exfalso
      simp [Deps, Dep, at_, Is] at hD
      simp_all
    trivial
  · show EndHold _ _ _ _ _ _ _
    refine end_all (xs := [_, _, _, _, _, _, _, _, _, _, _, _, _, _, _, _, _, _, _, _, _, _, _, _, _, _, _, _, _]) ⟨rfl, rfl, rfl, rfl, rfl, rfl, rfl, rfl, rfl, rfl, rfl, rfl, rfl, rfl, rfl, rfl, rfl, rfl, rfl, rfl, rfl, rfl, rfl, rfl, rfl, rfl, rfl, rfl, rfl, trivial⟩ ?_
    rintro w1 hR1 -
    refine ⟨?_⟩
    have hG_w1 : Grew _ w1 := (Grew.drew _).trans hR1
    clear hR1
    simp only [Act.put, List.setIfInBounds_toArray, List.set_cons_succ, List.set_cons_zero, dropN, putEach]
    go_wp2_with fail
    refine (rjoin_c x0 x1 z _ p0 p1 q0 q1).mono ?_
    rintro e w3 ⟨_, rfl, rfl, hg3⟩
    go_wp2_with fail
    refine (lives_c _).mono ?_
    rintro e w2 ⟨_, rfl, rfl, hg2⟩
    go_wp2
    go_ret
    exact ⟨_, rfl, rfl, hg0.trans (hG_w1.trans (hg3.trans hg2))⟩
end Go.Proofs.Ytgkghmhgpfjddaa.F
