/- The law RollTurned: its call returns true, for all bytes and places: two bytes side by side, exchanged, change the sum just if they differ. -/
import Derived.Test.YtgkghmhgpfjddaaRollOn
import Derived.Test.YtgkghmhgpfjddaaOwn
namespace Go.Proofs.Ytgkghmhgpfjddaa.F
open Go Go.RowKit Go.Proofs.YtgkghmhgpfjddaaW.PrintWords Go.Proofs.YtgkghmhgpfjddaaW.PrintLast Go.Proofs.YtgkghmhgpfjddaaW.PrintMore Go.Proofs.YtgkghmhgpfjddaaM Go.Proofs.YtgkghmhgpfjddaaR
set_option linter.unusedSimpArgs false
set_option linter.unusedVariables false
set_option maxRecDepth 100000
theorem cell_at_succ {w : World} {ad : Addr} {i : Nat} {v : Value} (h : w.cell? (ad.add (i + 1)) = some v) : w.cell? ⟨ad.block, ad.off + (i + 1), none⟩ = some v := by
  unfold Addr.add at h
  rwa [if_neg (by omega)] at h
set_option maxHeartbeats 4000000 in
theorem RollTurned_c (w : World) (A : Option Addr) (c : Nat) (l : List Int) (a1 : Int) (hr : Kd.C (Kd.int .u8) w A l.length l) (hc : l.length ≤ c) (hm : l.length ≤ maxLen) (hy : l.length * 1 ≤ 140737488351232) (hw : ∀ x ∈ l, (Lit.int .u8 x).wf = true) (ha : (Lit.int .i64 a1).wf = true) :
    Calls Try.prog 4 #[.slice A l.length c, .int .i64 a1] w (Tells w (Is (.bool true))) := by
  have hb := Lib.hid (bytes_of hw)
  clear hw ha
  have quick : 2000 < l.length ∨ a1 < 0 ∨ (l.length : Int) ≤ a1 + 1 → Calls Try.prog 4 #[.slice A l.length c, .int .i64 a1] w (Tells w (Is (.bool true))) := by
    intro h
    by_cases h1 : 2000 < l.length
    · have d1 : decide (2000 < l.length) = true := decide_eq_true h1
      go_enter Try.func4, Try.ntmps4
      go_wp2_with fail
      refine (lives_c _).mono ?_
      rintro e w' ⟨_, rfl, rfl, hg⟩
      go_wp2
      go_ret
      exact ⟨_, rfl, rfl, hg⟩
    have d1 : decide (2000 < l.length) = false := decide_eq_false h1
    by_cases h2 : a1 < 0
    · have d2 : decide (a1 < 0) = true := decide_eq_true h2
      go_enter Try.func4, Try.ntmps4
      go_wp2_with fail
      refine (lives_c _).mono ?_
      rintro e w' ⟨_, rfl, rfl, hg⟩
      go_wp2
      go_ret
      exact ⟨_, rfl, rfl, hg⟩
    have d2 : decide (a1 < 0) = false := decide_eq_false h2
    have d3 : decide ((l.length : Int) - 1 ≤ a1) = true := decide_eq_true (by omega)
    go_enter Try.func4, Try.ntmps4
    go_wp2_with fail
    refine (lives_c _).mono ?_
    rintro e w' ⟨_, rfl, rfl, hg⟩
    go_wp2
    go_ret
    exact ⟨_, rfl, rfl, hg⟩
  by_cases h : 2000 < l.length ∨ a1 < 0 ∨ (l.length : Int) ≤ a1 + 1
  · exact quick h
  clear quick
  obtain ⟨n, rfl⟩ := Int.eq_ofNat_of_zero_le (show 0 ≤ a1 by omega)
  obtain ⟨ad, rfl, hcell⟩ := C_cell hr (by omega)
  have Hc := Lib.hid hcell
  clear hcell
  have h2 : n + 1 < l.length := by omega
  have h3 : l.length ≤ 2000 := by omega
  clear h
  have d1 : decide (2000 < l.length) = false := decide_eq_false (by omega)
  have d2 : decide ((n : Int) < 0) = false := decide_eq_false (by omega)
  have d3 : decide ((l.length : Int) - 1 ≤ (n : Int)) = false := decide_eq_false (by omega)
  go_enter Try.func4, Try.ntmps4
  have HR := Lib.hid (fun o => reads_of (Kd.C_alloc hr o))
  go_wp2_with (at_builtin; refine print_append_row (w0 := w) w.heap.size rfl (.tmp 25) (.tmp 26) 22 5 .u8 1 rfl Try.underlying22 info5 (by decide) _ [] l (some ad) l.length c rfl rfl (own_lit _ _ 5 .u8 [] (Nat.le_refl _) (by simp)) (HR.out _) (Grew.alloc w _) (by simp) (by simp; omega) ?_; intro v1 w1 ho hb1 _ _)
  rw [List.nil_append] at ho
  obtain ⟨g, cap, rfl, hgb, _, hcap⟩ := own_head ho (by omega)
  have e1 : w1.cell? ⟨ad.block, ad.off + (n + 1), none⟩ = some (.int .u8 (byteAt l (n + 1))) := by
    have := pw_cell_below hb1 (Hc.out (n + 1) (by omega))
    unfold Addr.add at this
    rwa [if_neg (by omega)] at this
  have e2 := pw_cell_below hb1 (Hc.out n (by omega))
  have o3 := own_storeN ho n (byteAt l (n + 1))
  have o4 := own_storeN o3 (n + 1) (byteAt l n)
  obtain ⟨c2, f2⟩ := own_atN ho n (by omega)
  obtain ⟨c3, f3⟩ := own_atN o3 (n + 1) (by omega)
  have O4 := Lib.hid o4
  clear o3 o4
  have i1 : IntKind.i64.wrap ((n : Int) + 1) = (n : Int) + 1 := IntWalk.i64_in _ (by omega)
  have i2 : (n : Int) + 1 < (l.length : Int) := by omega
  have i3 : n < l.length := by omega
  have i4 : ((n : Int) + 1).toNat = n + 1 := by omega
  have i5 : 0 ≤ (n : Int) + 1 := by omega
  go_region
  all_goals
    clear i1 i2 i3 i4 i5 e1 e2 c2 f2 c3 f3
    go_wp2_with fail
    obtain ⟨wz, hwz⟩ : ∃ wz : World, wz = ((w1.setCell ⟨g, n, none⟩ (.int .u8 (byteAt l (n + 1)))).setCell ⟨g, n + 1, none⟩ (.int .u8 (byteAt l n))).drew := ⟨_, rfl⟩
    rw [← hwz]
    have hgz : Grew w wz := by rw [hwz]; exact below_drew ((Below.setCell (Below.setCell hb1 hgb _) hgb _))
    have oz : wz.ownsRow w.heap.size 5 1 (.slice (some ⟨g, 0, none⟩) l.length cap) l.length (nums .u8 ((l.set n (byteAt l (n + 1))).set (n + 1) (byteAt l n))) := by rw [hwz]; exact O4.out
    clear hwz O4 ho hb1 HR
    refine (sum_c _ _ _ _ (Kd.C_below hr hgz) hc (by omega) hb.out).mono ?_
    rintro e w2 ⟨_, rfl, rfl, hg2⟩
    go_wp2_with fail
    obtain ⟨m, hm2⟩ : ∃ m, m = (l.set n (byteAt l (n + 1))).set (n + 1) (byteAt l n) := ⟨_, rfl⟩
    rw [← hm2] at oz
    have hml : m.length = l.length := by rw [hm2]; simp
    obtain ⟨q1, q2, q3⟩ := turned_law l n h2 hb.out hm2
    have hbm : ∀ x ∈ m, 0 ≤ x ∧ x < 256 := turned_bytes l n h2 hb.out hm2
    clear hm2
    have om := pw_own_below oz hg2
    obtain ⟨A', c', hv, _, hc', hC⟩ := own_C om
    injection hv with hA hc1 hc2
    subst hA hc2
    have hs := sum_c _ cap m w2 (by rw [hml]; exact hC) (by omega) (by omega) hbm
    rw [hml] at hs
    refine hs.mono ?_
    clear hs hml hbm oz om hC
    rintro e w3 ⟨_, rfl, rfl, hg3⟩
    have hgw : Grew w w3 := hgz.trans (hg2.trans hg3)
    clear hgz hg2 hg3
    have Q1 := Lib.hid q1
    have Q2 := Lib.hid q2
    have Q3 := Lib.hid q3
    clear q1 q2 q3
    go_wp2_with fail
    apply region_grew [Is _, Is _, Is _, Is _, Is _, Is _, Is _, Is _, Is _, Is _, Is _] [([(0, none)], none), ([(1, none)], none), ([(49, some 1)], none), ([(48, some 0), (50, some 2)], none), ([(51, some 3)], none), ([(52, some 4)], none), ([(0, none)], none), ([(1, none)], none), ([(54, some 6), (55, some 7)], none), ([(56, some 8)], none), ([(57, some 9)], none)] [(48, 0), (49, 1), (50, 2), (51, 3), (52, 4), (53, 5), (54, 6), (55, 7), (56, 8), (57, 9), (58, 10)] rfl (by kernel_rfl) (by kernel_rfl) (show Stable Grew _ from ⟨Is.stable _, Is.stable _, Is.stable _, Is.stable _, Is.stable _, Is.stable _, Is.stable _, Is.stable _, Is.stable _, Is.stable _, Is.stable _, trivial⟩)
    · show OpsHold _ _ _ _ _ _ _ _ _
      refine ⟨fun a wx hR hD K hK => ?_, ?_⟩
      · have hG : Grew _ wx := (Grew.drew _).trans hR
        simp [Deps, Dep, at_, Is] at hD
        go_simp
        exact hK _ _ (Grew.refl _) rfl
      refine ⟨fun a wx hR hD K hK => ?_, ?_⟩
      · have hG : Grew _ wx := (Grew.drew _).trans hR
        simp [Deps, Dep, at_, Is] at hD
        go_simp
        exact hK _ _ (Grew.refl _) rfl
      refine ⟨fun a wx hR hD K hK => ?_, ?_⟩
      · have hG : Grew _ wx := (Grew.drew _).trans hR
        simp [Deps, Dep, at_, Is] at hD
        have e : IntKind.i64.wrap ((n : Int) + 1) = (n : Int) + 1 := IntWalk.i64_in _ (by omega)
        go_simp
        exact hK _ _ (Grew.refl _) rfl
      refine ⟨fun a wx hR hD K hK => ?_, ?_⟩
      · have hG : Grew _ wx := (Grew.drew _).trans hR
        simp [Deps, Dep, at_, Is] at hD
        obtain ⟨hd0, hd1⟩ := hD
        have e : (n : Int) + 1 < (l.length : Int) := by omega
        go_simp
        exact hK _ _ (Grew.refl _) rfl
      refine ⟨fun a wx hR hD K hK => ?_, ?_⟩
      · have hG : Grew _ wx := (Grew.drew _).trans hR
        simp [Deps, Dep, at_, Is] at hD
        have e := cell_at_succ (pw_cell_below (hgw.trans hG) (Hc.out (n + 1) (by omega)))
        go_simp
        exact hK _ _ (Grew.refl _) rfl
      refine ⟨fun a wx hR hD K hK => ?_, ?_⟩
      · have hG : Grew _ wx := (Grew.drew _).trans hR
        simp [Deps, Dep, at_, Is] at hD
        go_simp
        exact hK _ _ (Grew.refl _) rfl
      refine ⟨fun a wx hR hD K hK => ?_, ?_⟩
      · have hG : Grew _ wx := (Grew.drew _).trans hR
        simp [Deps, Dep, at_, Is] at hD
        go_simp
        exact hK _ _ (Grew.refl _) rfl
      refine ⟨fun a wx hR hD K hK => ?_, ?_⟩
      · have hG : Grew _ wx := (Grew.drew _).trans hR
        simp [Deps, Dep, at_, Is] at hD
        go_simp
        exact hK _ _ (Grew.refl _) rfl
      refine ⟨fun a wx hR hD K hK => ?_, ?_⟩
      · have hG : Grew _ wx := (Grew.drew _).trans hR
        simp [Deps, Dep, at_, Is] at hD
        obtain ⟨hd0, hd1⟩ := hD
        have e : n < l.length := by omega
        go_simp
        exact hK _ _ (Grew.refl _) rfl
      refine ⟨fun a wx hR hD K hK => ?_, ?_⟩
      · have hG : Grew _ wx := (Grew.drew _).trans hR
        simp [Deps, Dep, at_, Is] at hD
        have e := pw_cell_below (hgw.trans hG) (Hc.out n (by omega))
        go_simp
        exact hK _ _ (Grew.refl _) rfl
      refine ⟨fun a wx hR hD K hK => ?_, ?_⟩
      · have hG : Grew _ wx := (Grew.drew _).trans hR
        simp [Deps, Dep, at_, Is] at hD
        go_simp
        exact hK _ _ (Grew.refl _) rfl
      trivial
    · show EndHold _ _ _ _ _ _ _
      refine end_all (xs := [_, _, _, _, _, _, _, _, _, _, _]) ⟨rfl, rfl, rfl, rfl, rfl, rfl, rfl, rfl, rfl, rfl, rfl, trivial⟩ ?_
      rintro w4 hR1 -
      refine ⟨?_⟩
      have hG_w4 : Grew _ w4 := (Grew.drew _).trans hR1
      clear hR1
      simp only [Act.put, List.setIfInBounds_toArray, List.set_cons_succ, List.set_cons_zero, dropN, putEach]
      go_wp2_with fail
      apply region_grew [Is _, Is _, Is _, Is _, Is _, Is _, Is _, Is _, Is _, Is _, Is _, Is _, Is _, Is _, Is _, Is _, Is _, Is _, Is _, Is _, Is _, Is _, Is _, Is _, Is _, Is _, Is _, Is _, Is _, Is _] [([(6, none)], none), ([(60, some 0)], none), ([(7, none)], none), ([(62, some 2)], none), ([(61, some 1), (63, some 3)], none), ([(64, some 4)], none), ([(7, none), (65, some 5)], some (65, true)), ([(66, some 6), (65, some 5)], some (65, true)), ([(6, none), (65, some 5)], some (65, true)), ([(68, some 8), (65, some 5)], some (65, true)), ([(67, some 7), (69, some 9), (65, some 5)], some (65, true)), ([(70, some 10), (65, some 5)], some (65, true)), ([(8, none), (65, some 5)], some (65, true)), ([(72, some 12), (65, some 5)], some (65, true)), ([(71, some 11), (73, some 13), (65, some 5)], some (65, true)), ([(65, some 5), (74, some 14)], none), ([(75, some 15)], none), ([(6, none), (76, some 16)], some (76, true)), ([(7, none), (76, some 16)], some (76, true)), ([(77, some 17), (78, some 18), (76, some 16)], some (76, true)), ([(0, none), (76, some 16)], some (76, true)), ([(1, none), (76, some 16)], some (76, true)), ([(80, some 20), (81, some 21), (76, some 16)], some (76, true)), ([(82, some 22), (76, some 16)], some (76, true)), ([(0, none), (76, some 16)], some (76, true)), ([(1, none), (76, some 16)], some (76, true)), ([(85, some 25), (76, some 16)], some (76, true)), ([(84, some 24), (86, some 26), (76, some 16)], some (76, true)), ([(87, some 27), (76, some 16)], some (76, true)), ([(83, some 23), (88, some 28), (76, some 16)], some (76, true))] [(60, 0), (61, 1), (62, 2), (63, 3), (64, 4), (65, 5), (66, 6), (67, 7), (68, 8), (69, 9), (70, 10), (71, 11), (72, 12), (73, 13), (74, 14), (75, 15), (76, 16), (77, 17), (78, 18), (79, 19), (80, 20), (81, 21), (82, 22), (83, 23), (84, 24), (85, 25), (86, 26), (87, 27), (88, 28), (89, 29)] rfl (by kernel_rfl) (by kernel_rfl) (show Stable Grew _ from ⟨Is.stable _, Is.stable _, Is.stable _, Is.stable _, Is.stable _, Is.stable _, Is.stable _, Is.stable _, Is.stable _, Is.stable _, Is.stable _, Is.stable _, Is.stable _, Is.stable _, Is.stable _, Is.stable _, Is.stable _, Is.stable _, Is.stable _, Is.stable _, Is.stable _, Is.stable _, Is.stable _, Is.stable _, Is.stable _, Is.stable _, Is.stable _, Is.stable _, Is.stable _, Is.stable _, trivial⟩)
      · show OpsHold _ _ _ _ _ _ _ _ _
        refine ⟨fun a wx hR hD K hK => ?_, ?_⟩
        · have hG : Grew _ wx := (Grew.drew _).trans hR
          simp [Deps, Dep, at_, Is] at hD
          go_simp
          exact hK _ _ (Grew.refl _) rfl
        refine ⟨fun a wx hR hD K hK => ?_, ?_⟩
        · have hG : Grew _ wx := (Grew.drew _).trans hR
          simp [Deps, Dep, at_, Is] at hD
          have e := Int.tmod_eq_emod_of_nonneg (b := 65536) (weak_range l).1
          go_simp
          exact hK _ _ (Grew.refl _) rfl
        refine ⟨fun a wx hR hD K hK => ?_, ?_⟩
        · have hG : Grew _ wx := (Grew.drew _).trans hR
          simp [Deps, Dep, at_, Is] at hD
          go_simp
          exact hK _ _ (Grew.refl _) rfl
        refine ⟨fun a wx hR hD K hK => ?_, ?_⟩
        · have hG : Grew _ wx := (Grew.drew _).trans hR
          simp [Deps, Dep, at_, Is] at hD
          have e := Int.tmod_eq_emod_of_nonneg (b := 65536) (weak_range m).1
          go_simp
          exact hK _ _ (Grew.refl _) rfl
        refine ⟨fun a wx hR hD K hK => ?_, ?_⟩
        · have hG : Grew _ wx := (Grew.drew _).trans hR
          simp [Deps, Dep, at_, Is] at hD
          obtain ⟨hd0, hd1⟩ := hD
          have e := Q1.out
          go_simp
          exact hK _ _ (Grew.refl _) rfl
        refine ⟨fun a wx hR hD K hK => ?_, ?_⟩
        · have hG : Grew _ wx := (Grew.drew _).trans hR
          simp [Deps, Dep, at_, Is] at hD
          go_simp
          exact hK _ _ (Grew.refl _) rfl
        refine ⟨fun a wx hR hD => ⟨fun hgd K hK => ?_, fun hgd => ?_⟩, ?_⟩
        · have hG : Grew _ wx := (Grew.drew _).trans hR
          clear hgd
          simp [Deps, Dep, at_, Is] at hD
          obtain ⟨hd0, hd1⟩ := hD
          go_simp
          exact hK _ _ (Grew.refl _) rfl
        · have hG : Grew _ wx := (Grew.drew _).trans hR
          exfalso
          simp [Deps, Dep, at_, Is] at hD
          simp_all
        refine ⟨fun a wx hR hD => ⟨fun hgd K hK => ?_, fun hgd => ?_⟩, ?_⟩
        · have hG : Grew _ wx := (Grew.drew _).trans hR
          clear hgd
          simp [Deps, Dep, at_, Is] at hD
          obtain ⟨hd0, hd1⟩ := hD
          obtain ⟨r0, r1⟩ := weak_range m
          go_simp
          exact hK _ _ (Grew.refl _) rfl
        · have hG : Grew _ wx := (Grew.drew _).trans hR
          exfalso
          simp [Deps, Dep, at_, Is] at hD
          simp_all
        refine ⟨fun a wx hR hD => ⟨fun hgd K hK => ?_, fun hgd => ?_⟩, ?_⟩
        · have hG : Grew _ wx := (Grew.drew _).trans hR
          clear hgd
          simp [Deps, Dep, at_, Is] at hD
          obtain ⟨hd0, hd1⟩ := hD
          go_simp
          exact hK _ _ (Grew.refl _) rfl
        · have hG : Grew _ wx := (Grew.drew _).trans hR
          exfalso
          simp [Deps, Dep, at_, Is] at hD
          simp_all
        refine ⟨fun a wx hR hD => ⟨fun hgd K hK => ?_, fun hgd => ?_⟩, ?_⟩
        · have hG : Grew _ wx := (Grew.drew _).trans hR
          clear hgd
          simp [Deps, Dep, at_, Is] at hD
          obtain ⟨hd0, hd1⟩ := hD
          obtain ⟨r0, r1⟩ := weak_range l
          go_simp
          exact hK _ _ (Grew.refl _) rfl
        · have hG : Grew _ wx := (Grew.drew _).trans hR
          exfalso
          simp [Deps, Dep, at_, Is] at hD
          simp_all
        refine ⟨fun a wx hR hD => ⟨fun hgd K hK => ?_, fun hgd => ?_⟩, ?_⟩
        · have hG : Grew _ wx := (Grew.drew _).trans hR
          clear hgd
          simp [Deps, Dep, at_, Is] at hD
          obtain ⟨hd0, hd1, hd2⟩ := hD
          have e := IntKind.wrap_u32 (weak m / 65536 - weak l / 65536)
          go_simp
          exact hK _ _ (Grew.refl _) rfl
        · have hG : Grew _ wx := (Grew.drew _).trans hR
          exfalso
          simp [Deps, Dep, at_, Is] at hD
          simp_all
        refine ⟨fun a wx hR hD => ⟨fun hgd K hK => ?_, fun hgd => ?_⟩, ?_⟩
        · have hG : Grew _ wx := (Grew.drew _).trans hR
          clear hgd
          simp [Deps, Dep, at_, Is] at hD
          obtain ⟨hd0, hd1⟩ := hD
          have e := Int.tmod_eq_emod_of_nonneg (a := (weak m / 65536 - weak l / 65536) % 4294967296) (b := 65536) (Int.emod_nonneg _ (by decide))
          go_simp
          exact hK _ _ (Grew.refl _) rfl
        · have hG : Grew _ wx := (Grew.drew _).trans hR
          exfalso
          simp [Deps, Dep, at_, Is] at hD
          simp_all
        refine ⟨fun a wx hR hD => ⟨fun hgd K hK => ?_, fun hgd => ?_⟩, ?_⟩
        · have hG : Grew _ wx := (Grew.drew _).trans hR
          clear hgd
          simp [Deps, Dep, at_, Is] at hD
          obtain ⟨hd0, hd1⟩ := hD
          go_simp
          exact hK _ _ (Grew.refl _) rfl
        · have hG : Grew _ wx := (Grew.drew _).trans hR
          exfalso
          simp [Deps, Dep, at_, Is] at hD
          simp_all
        refine ⟨fun a wx hR hD => ⟨fun hgd K hK => ?_, fun hgd => ?_⟩, ?_⟩
        · have hG : Grew _ wx := (Grew.drew _).trans hR
          clear hgd
          simp [Deps, Dep, at_, Is] at hD
          obtain ⟨hd0, hd1⟩ := hD
          have e := Int.tmod_eq_emod_of_nonneg (a := (byteAt l (n + 1) - byteAt l n) % 4294967296) (b := 65536) (Int.emod_nonneg _ (by decide))
          go_simp
          exact hK _ _ (Grew.refl _) rfl
        · have hG : Grew _ wx := (Grew.drew _).trans hR
          exfalso
          simp [Deps, Dep, at_, Is] at hD
          simp_all
        refine ⟨fun a wx hR hD => ⟨fun hgd K hK => ?_, fun hgd => ?_⟩, ?_⟩
        · have hG : Grew _ wx := (Grew.drew _).trans hR
          clear hgd
          simp [Deps, Dep, at_, Is] at hD
          obtain ⟨hd0, hd1, hd2⟩ := hD
          have e : (weak m / 65536 - weak l / 65536) % 65536 = (byteAt l (n + 1) - byteAt l n) % 65536 := by have := Q2.out; omega
          go_simp
          exact hK _ _ (Grew.refl _) rfl
        · have hG : Grew _ wx := (Grew.drew _).trans hR
          exfalso
          simp [Deps, Dep, at_, Is] at hD
          simp_all
        refine ⟨fun a wx hR hD K hK => ?_, ?_⟩
        · have hG : Grew _ wx := (Grew.drew _).trans hR
          simp [Deps, Dep, at_, Is] at hD
          obtain ⟨hd0, hd1⟩ := hD
          go_simp
          exact hK _ _ (Grew.refl _) rfl
        refine ⟨fun a wx hR hD K hK => ?_, ?_⟩
        · have hG : Grew _ wx := (Grew.drew _).trans hR
          simp [Deps, Dep, at_, Is] at hD
          go_simp
          exact hK _ _ (Grew.refl _) rfl
        refine ⟨fun a wx hR hD => ⟨fun hgd K hK => ?_, fun hgd => ?_⟩, ?_⟩
        · have hG : Grew _ wx := (Grew.drew _).trans hR
          clear hgd
          simp [Deps, Dep, at_, Is] at hD
          obtain ⟨hd0, hd1⟩ := hD
          go_simp
          exact hK _ _ (Grew.refl _) rfl
        · have hG : Grew _ wx := (Grew.drew _).trans hR
          exfalso
          simp [Deps, Dep, at_, Is] at hD
          simp_all
        refine ⟨fun a wx hR hD => ⟨fun hgd K hK => ?_, fun hgd => ?_⟩, ?_⟩
        · have hG : Grew _ wx := (Grew.drew _).trans hR
          clear hgd
          simp [Deps, Dep, at_, Is] at hD
          obtain ⟨hd0, hd1⟩ := hD
          go_simp
          exact hK _ _ (Grew.refl _) rfl
        · have hG : Grew _ wx := (Grew.drew _).trans hR
          exfalso
          simp [Deps, Dep, at_, Is] at hD
          simp_all
        refine ⟨fun a wx hR hD => ⟨fun hgd K hK => ?_, fun hgd => ?_⟩, ?_⟩
        · have hG : Grew _ wx := (Grew.drew _).trans hR
          clear hgd
          simp [Deps, Dep, at_, Is] at hD
          obtain ⟨hd0, hd1, hd2⟩ := hD
          go_simp
          exact hK _ _ (Grew.refl _) rfl
        · have hG : Grew _ wx := (Grew.drew _).trans hR
          exfalso
          simp [Deps, Dep, at_, Is] at hD
          simp_all
        refine ⟨fun a wx hR hD => ⟨fun hgd K hK => ?_, fun hgd => ?_⟩, ?_⟩
        · have hG : Grew _ wx := (Grew.drew _).trans hR
          clear hgd
          simp [Deps, Dep, at_, Is] at hD
          obtain ⟨hd0, hd1⟩ := hD
          go_simp
          exact hK _ _ (Grew.refl _) rfl
        · have hG : Grew _ wx := (Grew.drew _).trans hR
          exfalso
          simp [Deps, Dep, at_, Is] at hD
          simp_all
        refine ⟨fun a wx hR hD => ⟨fun hgd K hK => ?_, fun hgd => ?_⟩, ?_⟩
        · have hG : Grew _ wx := (Grew.drew _).trans hR
          clear hgd
          simp [Deps, Dep, at_, Is] at hD
          obtain ⟨hd0, hd1⟩ := hD
          go_simp
          exact hK _ _ (Grew.refl _) rfl
        · have hG : Grew _ wx := (Grew.drew _).trans hR
          exfalso
          simp [Deps, Dep, at_, Is] at hD
          simp_all
        refine ⟨fun a wx hR hD => ⟨fun hgd K hK => ?_, fun hgd => ?_⟩, ?_⟩
        · have hG : Grew _ wx := (Grew.drew _).trans hR
          clear hgd
          simp [Deps, Dep, at_, Is] at hD
          obtain ⟨hd0, hd1, hd2⟩ := hD
          have e : n < l.length := by omega
          go_simp
          exact hK _ _ (Grew.refl _) rfl
        · have hG : Grew _ wx := (Grew.drew _).trans hR
          exfalso
          simp [Deps, Dep, at_, Is] at hD
          simp_all
        refine ⟨fun a wx hR hD => ⟨fun hgd K hK => ?_, fun hgd => ?_⟩, ?_⟩
        · have hG : Grew _ wx := (Grew.drew _).trans hR
          clear hgd
          simp [Deps, Dep, at_, Is] at hD
          obtain ⟨hd0, hd1⟩ := hD
          have e := pw_cell_below (hgw.trans (hG_w4.trans hG)) (Hc.out n (by omega))
          go_simp
          exact hK _ _ (Grew.refl _) rfl
        · have hG : Grew _ wx := (Grew.drew _).trans hR
          exfalso
          simp [Deps, Dep, at_, Is] at hD
          simp_all
        refine ⟨fun a wx hR hD => ⟨fun hgd K hK => ?_, fun hgd => ?_⟩, ?_⟩
        · have hG : Grew _ wx := (Grew.drew _).trans hR
          clear hgd
          simp [Deps, Dep, at_, Is] at hD
          obtain ⟨hd0, hd1⟩ := hD
          go_simp
          exact hK _ _ (Grew.refl _) rfl
        · have hG : Grew _ wx := (Grew.drew _).trans hR
          exfalso
          simp [Deps, Dep, at_, Is] at hD
          simp_all
        refine ⟨fun a wx hR hD => ⟨fun hgd K hK => ?_, fun hgd => ?_⟩, ?_⟩
        · have hG : Grew _ wx := (Grew.drew _).trans hR
          clear hgd
          simp [Deps, Dep, at_, Is] at hD
          obtain ⟨hd0, hd1⟩ := hD
          go_simp
          exact hK _ _ (Grew.refl _) rfl
        · have hG : Grew _ wx := (Grew.drew _).trans hR
          exfalso
          simp [Deps, Dep, at_, Is] at hD
          simp_all
        refine ⟨fun a wx hR hD => ⟨fun hgd K hK => ?_, fun hgd => ?_⟩, ?_⟩
        · have hG : Grew _ wx := (Grew.drew _).trans hR
          clear hgd
          simp [Deps, Dep, at_, Is] at hD
          obtain ⟨hd0, hd1⟩ := hD
          have e : IntKind.i64.wrap ((n : Int) + 1) = (n : Int) + 1 := IntWalk.i64_in _ (by omega)
          go_simp
          exact hK _ _ (Grew.refl _) rfl
        · have hG : Grew _ wx := (Grew.drew _).trans hR
          exfalso
          simp [Deps, Dep, at_, Is] at hD
          simp_all
        refine ⟨fun a wx hR hD => ⟨fun hgd K hK => ?_, fun hgd => ?_⟩, ?_⟩
        · have hG : Grew _ wx := (Grew.drew _).trans hR
          clear hgd
          simp [Deps, Dep, at_, Is] at hD
          obtain ⟨hd0, hd1, hd2⟩ := hD
          have e : (n : Int) + 1 < (l.length : Int) := by omega
          go_simp
          exact hK _ _ (Grew.refl _) rfl
        · have hG : Grew _ wx := (Grew.drew _).trans hR
          exfalso
          simp [Deps, Dep, at_, Is] at hD
          simp_all
        refine ⟨fun a wx hR hD => ⟨fun hgd K hK => ?_, fun hgd => ?_⟩, ?_⟩
        · have hG : Grew _ wx := (Grew.drew _).trans hR
          clear hgd
          simp [Deps, Dep, at_, Is] at hD
          obtain ⟨hd0, hd1⟩ := hD
          have e := cell_at_succ (pw_cell_below (hgw.trans (hG_w4.trans hG)) (Hc.out (n + 1) (by omega)))
          go_simp
          exact hK _ _ (Grew.refl _) rfl
        · have hG : Grew _ wx := (Grew.drew _).trans hR
          exfalso
          simp [Deps, Dep, at_, Is] at hD
          simp_all
        refine ⟨fun a wx hR hD => ⟨fun hgd K hK => ?_, fun hgd => ?_⟩, ?_⟩
        · have hG : Grew _ wx := (Grew.drew _).trans hR
          clear hgd
          simp [Deps, Dep, at_, Is] at hD
          obtain ⟨hd0, hd1, hd2⟩ := hD
          go_simp
          exact hK _ _ (Grew.refl _) rfl
        · have hG : Grew _ wx := (Grew.drew _).trans hR
          exfalso
          simp [Deps, Dep, at_, Is] at hD
          simp_all
        trivial
      · show EndHold _ _ _ _ _ _ _
        refine end_all (xs := [_, _, _, _, _, _, _, _, _, _, _, _, _, _, _, _, _, _, _, _, _, _, _, _, _, _, _, _, _, _]) ⟨rfl, rfl, rfl, rfl, rfl, rfl, rfl, rfl, rfl, rfl, rfl, rfl, rfl, rfl, rfl, rfl, rfl, rfl, rfl, rfl, rfl, rfl, rfl, rfl, rfl, rfl, rfl, rfl, rfl, rfl, trivial⟩ ?_
        rintro w5 hR1 -
        refine ⟨?_⟩
        have hG_w5 : Grew _ w5 := (Grew.drew _).trans hR1
        clear hR1
        simp only [Act.put, List.setIfInBounds_toArray, List.set_cons_succ, List.set_cons_zero, dropN, putEach]
        go_wp2_with fail
        refine (lives_c _).mono ?_
        rintro e w6 ⟨_, rfl, rfl, hg6⟩
        go_wp2
        go_ret
        exact ⟨_, rfl, rfl, hgw.trans (hG_w4.trans (hG_w5.trans hg6))⟩
end Go.Proofs.Ytgkghmhgpfjddaa.F
