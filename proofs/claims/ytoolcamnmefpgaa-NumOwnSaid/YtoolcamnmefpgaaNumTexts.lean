/- The law NumTexts: its call returns true, for all bytes, texts, places and bounds. -/
import Derived.Test.YtoolcamnmefpgaaNumT
namespace Go.Proofs.Ytoolcamnmefpgaa.F
open Go Go.RowKit Go.Proofs.YtoolcamnmefpgaaW.PrintWords Go.Proofs.YtoolcamnmefpgaaW.PrintLast Go.Proofs.YtoolcamnmefpgaaW.PrintMore Go.Proofs.YtoolcamnmefpgaaM Go.Proofs.YtoolcamnmefpgaaR
set_option linter.unusedSimpArgs false
set_option linter.unusedVariables false
set_option maxRecDepth 100000
theorem str_text (s : ByteArray) : strOfNums (putL s.size) ++ s = strOfNums (textL s) := by
  have := str_append (putL s.size) (bytesOf s)
  rw [str_bytesOf] at this
  exact this
theorem small_f1 (l : List Int) (s : ByteArray) (hs : s.size ≤ 140737488351232) : strongroomlaw01_small.f 4 l [s] = some (decide (l.length ≤ 20000 ∧ s.size ≤ 20000)) := by
  unfold strongroomlaw01_small.f
  by_cases h : (l.length : Int) > 20000
  · rw [if_pos h, decide_eq_false (show ¬ (l.length ≤ 20000 ∧ s.size ≤ 20000) from by omega)]; simp only [strongroomlaw01_small.j0, if_true]
  · rw [if_neg h, decide_eq_false (show ¬ ((([s] : List ByteArray).length : Int) > 300) from by simp)]
    simp only [strongroomlaw01_small.j0]
    rw [if_neg (by simp)]
    simp only [strongroomlaw01_small.l0]
    rw [if_pos (by simp), if_pos (by omega), if_pos (by omega), show rdOf ByteArray.empty [s] 0 = s from rfl, w64 (x := 0 + (s.size : Int)) (by omega) (by omega), if_neg (by simp [wrap64])]
    congr 1
    rw [decide_eq_decide]
    omega
theorem C_str1 {w : World} {ad : Addr} {s : ByteArray} (h : w.cell? ad = some (.string s)) : Kd.C Kd.string w (some ad) 1 [s] := by
  refine ⟨rfl, by omega, fun _ => ⟨ad, rfl, fun j p hp => ⟨[.string p], rfl, rfl, fun i u hu => ?_⟩⟩⟩
  cases j with
  | succ j => simp at hp
  | zero =>
    simp at hp; subst hp
    cases i with
    | succ i => simp at hu
    | zero => simp at hu; subst hu; simpa [Addr.add] using h
theorem small_c1 (A : Option Addr) (c : Nat) (l : List Int) (ad : Addr) (s : ByteArray) (w : World) (hr : Kd.C (Kd.int .u8) w A l.length l) (hc : l.length ≤ c) (h1 : w.cell? ad = some (.string s)) (hs : s.size ≤ 140737488351232) (b : Bool) (hb : decide (l.length ≤ 20000 ∧ s.size ≤ 20000) = b) :
    Calls Try.prog 10 #[.slice A l.length c, .slice (some ad) 1 1] w (Tells w (Is (.bool b))) := by
  subst hb
  exact tells_is ((strongroomlaw01_small.calls 4 A c l (some ad) 1 [s] _ w hr hc (C_str1 h1) (Nat.le_refl _) (small_f1 l s hs)).mono fun _ _ ⟨h, k⟩ => ⟨h, drawn_below k⟩)
theorem wf_i64 {x : Int} (h : (Lit.int .i64 x).wf = true) : -9223372036854775808 ≤ x ∧ x ≤ 9223372036854775807 := by
  simp [Lit.wf, IntKind.min, IntKind.max, IntKind.bits, IntKind.signed] at h; omega
set_option maxHeartbeats 4000000 in
theorem NumTexts_c (w : World) (A : Option Addr) (c : Nat) (l : List Int) (s : ByteArray) (x y : Int) (hr : Kd.C (Kd.int .u8) w A l.length l) (hc : l.length ≤ c) (hm : l.length ≤ maxLen) (hy : l.length * 1 ≤ 140737488351232) (hw : ∀ x ∈ l, (Lit.int .u8 x).wf = true) (hs : s.size ≤ 140737488351232) (hx : (Lit.int .i64 x).wf = true) (hyy : (Lit.int .i64 y).wf = true) :
    Calls Try.prog 7 #[.slice A l.length c, .string s, .agg #[.int .i64 x, .int .i64 y]] w (Tells w (Is (.bool true))) := by
  have hb := Lib.hid (bytes_of hw)
  obtain ⟨y0, y1⟩ := wf_i64 hyy
  clear hw hx hyy
  go_enter Try.func7, Try.ntmps7
  go_wp2_with fail
  obtain ⟨W, hW⟩ : ∃ W : World, W = (w.alloc (Obj.cells #[Value.int .i64 x, Value.int .i64 y] 37)).alloc (Obj.cells #[Value.string s] 9) := ⟨_, rfl⟩
  rw [← hW]
  have hg0 : Grew w W := by rw [hW]; exact (Grew.alloc _ _).trans (Grew.alloc _ _)
  have D0 := Lib.hid (show W.cell? ⟨w.heap.size, 0, none⟩ = some (.int .i64 x) by rw [hW]; go_simp)
  have D1 := Lib.hid (show W.cell? ⟨w.heap.size, 1, none⟩ = some (.int .i64 y) by rw [hW]; go_simp)
  have DS : W.cell? ⟨w.heap.size + 1, 0, none⟩ = some (.string s) := by rw [hW]; go_simp
  clear hW
  by_cases h : l.length ≤ 20000 ∧ s.size ≤ 20000
  case neg =>
    refine (small_c1 A c l _ s W (Kd.C_below hr hg0) hc DS hs false (decide_eq_false h)).mono ?_
    rintro e w1 ⟨_, rfl, rfl, hg1⟩
    go_wp2_with fail
    refine (lives_c _).mono ?_
    rintro e w2 ⟨_, rfl, rfl, hg2⟩
    go_wp2
    go_ret
    exact ⟨_, rfl, rfl, hg0.trans (hg1.trans hg2)⟩
  refine (small_c1 A c l _ s W (Kd.C_below hr hg0) hc DS hs true (decide_eq_true h)).mono ?_
  obtain ⟨hl1, hl2⟩ := h
  rintro e w1 ⟨_, rfl, rfl, hg1⟩
  have E0 := Lib.hid (pw_cell_below hg1 D0.out)
  have E1 := Lib.hid (pw_cell_below hg1 D1.out)
  have hgw := hg0.trans hg1
  clear D0 D1 DS hg0 hg1
  have e0 := E0.out
  have e1 := E1.out
  go_wp2_with fail
  clear e0 e1
  refine (getT_c A c l x y w1 (Kd.C_below hr hgw) hc (by omega) hb.out y0 y1).mono ?_
  rintro e w2 ⟨_, rfl, rfl, hg2⟩
  have e0 := pw_cell_below hg2 E0.out
  have e1 := pw_cell_below hg2 E1.out
  have hgw2 := hgw.trans hg2
  clear hgw hg2 E0 E1
  have hcv := Kd.C_string (P := Try.prog) (c := c) Try.underlying22 Try.underlying5 Try.underlying9 (Kd.C_below hr hgw2)
  go_wp2_with fail
  clear hcv e0 e1
  have hrt := rgetT_c (strOfNums l) x y w2 (by rw [str_size]; omega) y1
  rw [bytesOf_str hb.out] at hrt
  refine hrt.mono ?_
  clear hrt
  rintro e w3 ⟨_, rfl, rfl, hg3⟩
  have hgw3 := hgw2.trans hg3
  clear hgw2 hg3
  go_wp2_with fail
  apply region_grew [Is _, Is _, Row (l ++ textL s), Is _, Is _, Is _, Is _, Is _, Is _, Is _, Is _, Is _, Is _, Is _, Is _, Is _, Is _, Is _, Is _, Is _, Is _, Is _, Is _] [([(0, none)], none), ([(1, none)], none), ([(40, some 0), (41, some 1)], none), ([(42, some 2)], none), ([(0, none)], none), ([(44, some 4)], none), ([(1, none)], none), ([(46, some 6)], none), ([(45, some 5), (47, some 7)], none), ([(43, some 3), (48, some 8)], none), ([(49, some 9)], none), ([(7, none), (50, some 10)], some (50, true)), ([(10, none), (50, some 10)], some (50, true)), ([(51, some 11), (52, some 12), (50, some 10)], some (50, true)), ([(50, some 10), (53, some 13)], none), ([(54, some 14)], none), ([(8, none), (55, some 15)], some (55, true)), ([(11, none), (55, some 15)], some (55, true)), ([(56, some 16), (57, some 17), (55, some 15)], some (55, true)), ([(55, some 15), (58, some 18)], none), ([(59, some 19)], none), ([(9, none), (60, some 20)], some (60, true)), ([(12, none), (60, some 20)], some (60, true))] [(42, 2), (40, 0), (41, 1), (43, 3), (44, 4), (45, 5), (46, 6), (47, 7), (48, 8), (49, 9), (50, 10), (51, 11), (52, 12), (53, 13), (54, 14), (55, 15), (56, 16), (57, 17), (58, 18), (59, 19), (60, 20), (61, 21), (62, 22)] rfl (by kernel_rfl) (by kernel_rfl) (show Stable Grew _ from ⟨Is.stable _, Is.stable _, Row.stable _, Is.stable _, Is.stable _, Is.stable _, Is.stable _, Is.stable _, Is.stable _, Is.stable _, Is.stable _, Is.stable _, Is.stable _, Is.stable _, Is.stable _, Is.stable _, Is.stable _, Is.stable _, Is.stable _, Is.stable _, Is.stable _, Is.stable _, Is.stable _, trivial⟩)
  · show OpsHold _ _ _ _ _ _ _ _ _
    refine ⟨fun a_ wx hR hD K hK => ?_, ?_⟩
    · have hG : Grew _ wx := (Grew.drew _).trans hR
      simp [Deps, Dep, at_, Is] at hD
      go_simp
      exact hK _ _ (Grew.refl _) rfl
    refine ⟨fun a_ wx hR hD K hK => ?_, ?_⟩
    · have hG : Grew _ wx := (Grew.drew _).trans hR
      simp [Deps, Dep, at_, Is] at hD
      go_simp
      exact hK _ _ (Grew.refl _) rfl
    refine ⟨fun a_ wx hR hD K hK => ?_, ?_⟩
    · have hG : Grew _ wx := (Grew.drew _).trans hR
      simp [Deps, Dep, at_, Is] at hD
      obtain ⟨hd0, hd1⟩ := hD
      go_simp
      have hcn := putT_c A c l s wx (Kd.C_below hr (hgw3.trans hG)) hc (by omega) (by omega)
      with_reducible refine hcn.mono ?_
      clear hcn
      rintro e wy ⟨v, rfl, hv, hg⟩
      exact hK _ _ hg hv
    refine ⟨fun a_ wx hR hD K hK => ?_, ?_⟩
    · have hG : Grew _ wx := (Grew.drew _).trans hR
      simp [Deps, Dep, at_, Is] at hD
      obtain ⟨A', c', hv', hc', hC'⟩ := hD
      have hcv := Kd.C_string (P := Try.prog) (c := c') Try.underlying22 Try.underlying5 Try.underlying9 hC'
      rw [List.length_append] at hcv
      go_simp
      exact hK _ _ (Grew.refl _) rfl
    refine ⟨fun a_ wx hR hD K hK => ?_, ?_⟩
    · have hG : Grew _ wx := (Grew.drew _).trans hR
      simp [Deps, Dep, at_, Is] at hD
      go_simp
      exact hK _ _ (Grew.refl _) rfl
    refine ⟨fun a_ wx hR hD K hK => ?_, ?_⟩
    · have hG : Grew _ wx := (Grew.drew _).trans hR
      simp [Deps, Dep, at_, Is] at hD
      have hcv := Kd.C_string (P := Try.prog) (c := c) Try.underlying22 Try.underlying5 Try.underlying9 (Kd.C_below hr (hgw3.trans hG))
      go_simp
      exact hK _ _ (Grew.refl _) rfl
    refine ⟨fun a_ wx hR hD K hK => ?_, ?_⟩
    · have hG : Grew _ wx := (Grew.drew _).trans hR
      simp [Deps, Dep, at_, Is] at hD
      go_simp
      exact hK _ _ (Grew.refl _) rfl
    refine ⟨fun a_ wx hR hD K hK => ?_, ?_⟩
    · have hG : Grew _ wx := (Grew.drew _).trans hR
      simp [Deps, Dep, at_, Is] at hD
      go_simp
      have hcn := rtext_c s wx (by omega)
      with_reducible refine hcn.mono ?_
      clear hcn
      rintro e wy ⟨v, rfl, hv, hg⟩
      exact hK _ _ hg hv
    refine ⟨fun a_ wx hR hD K hK => ?_, ?_⟩
    · have hG : Grew _ wx := (Grew.drew _).trans hR
      simp [Deps, Dep, at_, Is] at hD
      obtain ⟨hd0, hd1⟩ := hD
      have hz : ¬ (9223372036854775807 < (strOfNums l).size + ((strOfNums (putL s.size)).size + s.size)) := by rw [str_size, str_size]; have := putL_ten (n := s.size) (by omega); omega
      have e : strOfNums l ++ (strOfNums (putL s.size) ++ s) = strOfNums (l ++ textL s) := by rw [str_text, str_append]
      go_simp
      exact hK _ _ (Grew.refl _) rfl
    refine ⟨fun a_ wx hR hD K hK => ?_, ?_⟩
    · have hG : Grew _ wx := (Grew.drew _).trans hR
      simp [Deps, Dep, at_, Is] at hD
      obtain ⟨hd0, hd1⟩ := hD
      go_simp
      exact hK _ _ (Grew.refl _) rfl
    refine ⟨fun a_ wx hR hD K hK => ?_, ?_⟩
    · have hG : Grew _ wx := (Grew.drew _).trans hR
      simp [Deps, Dep, at_, Is] at hD
      go_simp
      exact hK _ _ (Grew.refl _) rfl
    refine ⟨fun a_ wx hR hD => ⟨fun hgd K hK => ?_, fun hgd => ?_⟩, ?_⟩
    · have hG : Grew _ wx := (Grew.drew _).trans hR
      clear hgd
      simp [Deps, Dep, at_, Is] at hD
      obtain ⟨hd0, hd1⟩ := hD
      go_simp
      exact hK _ _ (Grew.refl _) rfl
    · have hG : Grew _ wx := (Grew.drew _).trans hR
      exfalso
      simp [Deps, Dep, at_, Is] at hD
      simp_all
    refine ⟨fun a_ wx hR hD => ⟨fun hgd K hK => ?_, fun hgd => ?_⟩, ?_⟩
    · have hG : Grew _ wx := (Grew.drew _).trans hR
      clear hgd
      simp [Deps, Dep, at_, Is] at hD
      obtain ⟨hd0, hd1⟩ := hD
      go_simp
      exact hK _ _ (Grew.refl _) rfl
    · have hG : Grew _ wx := (Grew.drew _).trans hR
      exfalso
      simp [Deps, Dep, at_, Is] at hD
      simp_all
    refine ⟨fun a_ wx hR hD => ⟨fun hgd K hK => ?_, fun hgd => ?_⟩, ?_⟩
    · have hG : Grew _ wx := (Grew.drew _).trans hR
      clear hgd
      simp [Deps, Dep, at_, Is] at hD
      obtain ⟨hd0, hd1, hd2⟩ := hD
      go_simp
      exact hK _ _ (Grew.refl _) rfl
    · have hG : Grew _ wx := (Grew.drew _).trans hR
      exfalso
      simp [Deps, Dep, at_, Is] at hD
      simp_all
    refine ⟨fun a_ wx hR hD K hK => ?_, ?_⟩
    · have hG : Grew _ wx := (Grew.drew _).trans hR
      simp [Deps, Dep, at_, Is] at hD
      obtain ⟨hd0, hd1⟩ := hD
      go_simp
      exact hK _ _ (Grew.refl _) rfl
    refine ⟨fun a_ wx hR hD K hK => ?_, ?_⟩
    · have hG : Grew _ wx := (Grew.drew _).trans hR
      simp [Deps, Dep, at_, Is] at hD
      go_simp
      exact hK _ _ (Grew.refl _) rfl
    refine ⟨fun a_ wx hR hD => ⟨fun hgd K hK => ?_, fun hgd => ?_⟩, ?_⟩
    · have hG : Grew _ wx := (Grew.drew _).trans hR
      clear hgd
      simp [Deps, Dep, at_, Is] at hD
      obtain ⟨hd0, hd1⟩ := hD
      go_simp
      exact hK _ _ (Grew.refl _) rfl
    · have hG : Grew _ wx := (Grew.drew _).trans hR
      exfalso
      simp [Deps, Dep, at_, Is] at hD
      simp_all
    refine ⟨fun a_ wx hR hD => ⟨fun hgd K hK => ?_, fun hgd => ?_⟩, ?_⟩
    · have hG : Grew _ wx := (Grew.drew _).trans hR
      clear hgd
      simp [Deps, Dep, at_, Is] at hD
      obtain ⟨hd0, hd1⟩ := hD
      go_simp
      exact hK _ _ (Grew.refl _) rfl
    · have hG : Grew _ wx := (Grew.drew _).trans hR
      exfalso
      simp [Deps, Dep, at_, Is] at hD
      simp_all
    refine ⟨fun a_ wx hR hD => ⟨fun hgd K hK => ?_, fun hgd => ?_⟩, ?_⟩
    · have hG : Grew _ wx := (Grew.drew _).trans hR
      clear hgd
      simp [Deps, Dep, at_, Is] at hD
      obtain ⟨hd0, hd1, hd2⟩ := hD
      go_simp
      exact hK _ _ (Grew.refl _) rfl
    · have hG : Grew _ wx := (Grew.drew _).trans hR
      exfalso
      simp [Deps, Dep, at_, Is] at hD
      simp_all
    refine ⟨fun a_ wx hR hD K hK => ?_, ?_⟩
    · have hG : Grew _ wx := (Grew.drew _).trans hR
      simp [Deps, Dep, at_, Is] at hD
      obtain ⟨hd0, hd1⟩ := hD
      go_simp
      exact hK _ _ (Grew.refl _) rfl
    refine ⟨fun a_ wx hR hD K hK => ?_, ?_⟩
    · have hG : Grew _ wx := (Grew.drew _).trans hR
      simp [Deps, Dep, at_, Is] at hD
      go_simp
      exact hK _ _ (Grew.refl _) rfl
    refine ⟨fun a_ wx hR hD => ⟨fun hgd K hK => ?_, fun hgd => ?_⟩, ?_⟩
    · have hG : Grew _ wx := (Grew.drew _).trans hR
      clear hgd
      simp [Deps, Dep, at_, Is] at hD
      obtain ⟨hd0, hd1⟩ := hD
      go_simp
      exact hK _ _ (Grew.refl _) rfl
    · have hG : Grew _ wx := (Grew.drew _).trans hR
      exfalso
      simp [Deps, Dep, at_, Is] at hD
      simp_all
    refine ⟨fun a_ wx hR hD => ⟨fun hgd K hK => ?_, fun hgd => ?_⟩, ?_⟩
    · have hG : Grew _ wx := (Grew.drew _).trans hR
      clear hgd
      simp [Deps, Dep, at_, Is] at hD
      obtain ⟨hd0, hd1⟩ := hD
      go_simp
      exact hK _ _ (Grew.refl _) rfl
    · have hG : Grew _ wx := (Grew.drew _).trans hR
      exfalso
      simp [Deps, Dep, at_, Is] at hD
      simp_all
    trivial
  · show EndHold _ _ _ _ _ _ _
    intro v42
    refine end_all (xs := [_, _, _, _, _, _, _, _, _, _, _, _, _, _, _, _, _, _, _, _, _, _]) ⟨rfl, rfl, rfl, rfl, rfl, rfl, rfl, rfl, rfl, rfl, rfl, rfl, rfl, rfl, rfl, rfl, rfl, rfl, rfl, rfl, rfl, rfl, trivial⟩ ?_
    rintro w4 hR1 ⟨-, hrow⟩
    refine ⟨?_⟩
    have hG_w4 : Grew _ w4 := (Grew.drew _).trans hR1
    clear hR1
    simp only [Act.put, List.setIfInBounds_toArray, List.set_cons_succ, List.set_cons_zero, dropN, putEach]
    clear hrow
    go_wp2_with fail
    refine (lives_c _).mono ?_
    rintro e w5 ⟨_, rfl, rfl, hg5⟩
    go_wp2
    go_ret
    exact ⟨_, rfl, rfl, hgw3.trans (hG_w4.trans hg5)⟩
end Go.Proofs.Ytoolcamnmefpgaa.F
