/- The law ChunkCommon: its call returns true, for any two lists of texts. -/
import Derived.Test.YtaeobiilihklhaaChunkCom
import Derived.Lib.SlBytesConst
namespace Go.Proofs.Ytaeobiilihklhaa.F
open Go Go.RowKit Go.Proofs.YtaeobiilihklhaaW.PrintWords Go.Proofs.YtaeobiilihklhaaW.PrintLast Go.Proofs.YtaeobiilihklhaaW.PrintMore Go.Proofs.YtaeobiilihklhaaM Go.Proofs.YtaeobiilihklhaaR
attribute [local go_sem] max2_int min2_int max_two min_two
set_option linter.unusedSimpArgs false
set_option linter.unusedVariables false
set_option maxRecDepth 100000
theorem at0_get (l : List ByteArray) (i : Nat) (h : i < l.length) : l[i] = at0 l i := by simp [at0, List.getD, h]
theorem common_take {a b : List ByteArray} {x y : Nat} (h : CommonP a b x y) : a.take x = b.take x := by
  have := h.x1
  refine List.ext_getElem (by simp; omega) fun i h1 h2 => ?_
  simp only [List.length_take] at h1 h2
  rw [List.getElem_take, List.getElem_take, at0_get, at0_get]
  exact h.xs i (by omega)
theorem common_drop {a b : List ByteArray} {x y : Nat} (h : CommonP a b x y) : a.drop (a.length - y) = b.drop (b.length - y) := by
  have := h.x1
  have := h.y1
  refine List.ext_getElem (by simp; omega) fun i h1 h2 => ?_
  simp only [List.length_drop] at h1 h2
  rw [List.getElem_drop, List.getElem_drop, at0_get, at0_get]
  have := h.ys (y - 1 - i) (by omega)
  rwa [show a.length - 1 - (y - 1 - i) = a.length - y + i from by omega, show b.length - 1 - (y - 1 - i) = b.length - y + i from by omega] at this
theorem end_nil (w : World) : Calls Try.prog 19 #[.pointer none] w (Tells w (Is (.tuple #[.string ⟨#[]⟩, .bool false]))) := by
  go_enter Try.func19, Try.ntmps19
  go_wp2
  go_ret2
  exact ⟨_, rfl, rfl, Grew.refl _⟩
theorem left_nil (w : World) : Calls Try.prog 18 #[.pointer none] w (Tells w (Is (.int .i64 0))) := by
  go_enter Try.func18, Try.ntmps18
  go_wp2
  go_ret
  exact ⟨_, rfl, rfl, Grew.refl _⟩
theorem write_nil (v : Value) (w : World) : Calls Try.prog 17 #[.pointer none, v] w (Tells w (Is (.slice none 0 0))) := by
  go_enter Try.func17, Try.ntmps17
  go_wp2
  go_ret
  exact ⟨_, rfl, rfl, Grew.refl _⟩
set_option maxHeartbeats 4000000 in
theorem ChunkCommon_c (w : World) (A : Option Addr) (c : Nat) (a : List ByteArray) (B : Option Addr) (d : Nat) (b : List ByteArray) (hr : Kd.C Kd.string w A a.length a) (hc : a.length ≤ c) (hs1 : ∀ s ∈ a, s.size ≤ 140737488351232) (hr1 : Kd.C Kd.string w B b.length b) (hd : b.length ≤ d) (hs2 : ∀ s ∈ b, s.size ≤ 140737488351232) :
    Calls Try.prog 8 #[.slice A a.length c, .slice B b.length d] w (Tells w (Is (.bool true))) := by
  clear hs1 hs2
  by_cases h1 : 200 < a.length
  · have d1 : decide (200 < a.length) = true := decide_eq_true h1
    go_enter Try.func8, Try.ntmps8
    go_wp2_with fail
    refine (lives_c _).mono ?_
    rintro e w' ⟨_, rfl, rfl, hg⟩
    go_wp2
    go_ret
    exact ⟨_, rfl, rfl, hg⟩
  have d1 : decide (200 < a.length) = false := decide_eq_false h1
  by_cases h2 : 200 < b.length
  · have d2 : decide (200 < b.length) = true := decide_eq_true h2
    go_enter Try.func8, Try.ntmps8
    go_wp2_with fail
    refine (lives_c _).mono ?_
    rintro e w' ⟨_, rfl, rfl, hg⟩
    go_wp2
    go_ret
    exact ⟨_, rfl, rfl, hg⟩
  have d2 : decide (200 < b.length) = false := decide_eq_false h2
  have HC := Lib.hid (common_c A c a B d b w hr hc hr1 hd (by omega) (by omega))
  obtain ⟨n, hn⟩ : ∃ n, n = min a.length b.length := ⟨_, rfl⟩
  have en : (if (b.length : Int) < (a.length : Int) then (b.length : Int) else (a.length : Int)) = (n : Int) := by split <;> omega
  have en2 : (if b.length < a.length then (b.length : Int) else (a.length : Int)) = (n : Int) := by split <;> omega
  have hna : n ≤ a.length := by omega
  have hnb : n ≤ b.length := by omega
  have HN := Lib.hid hn
  clear hn
  go_enter Try.func8, Try.ntmps8
  go_wp2_with fail
  refine HC.out.mono ?_
  rintro e w1 ⟨_, rfl, ⟨x, y, rfl, hP⟩, hg1⟩
  have hx1 := hP.x1
  have hy1 := hP.y1
  rw [← HN.out] at hx1 hy1
  go_wp2_with fail
  have HT := common_take hP
  have HD := common_drop hP
  obtain ⟨i0, hi, hzz⟩ := Option.map_eq_some_iff.1 info9
  simp only [Prod.mk.injEq] at hzz
  have hsz : i0.size = 1 := hzz.2.1
  obtain ⟨t1, t2, t3⟩ := print_take_of (P := Try.prog) Value.string ByteArray.empty 25 9 .i64 Try.underlying25 hi hsz A c a (x : Int) (by omega) (by omega) hc
  obtain ⟨s1, s2, s3⟩ := print_take_of (P := Try.prog) Value.string ByteArray.empty 25 9 .i64 Try.underlying25 hi hsz B d b (x : Int) (by omega) (by omega) hd
  obtain ⟨A2, p1, p2, p3⟩ := print_drop_of (P := Try.prog) Value.string ByteArray.empty 25 9 .i64 Try.underlying25 hi hsz A c a ((a.length : Int) - (y : Int)) (by omega) (by omega) hc
  obtain ⟨B2, q1, q2, q3⟩ := print_drop_of (P := Try.prog) Value.string ByteArray.empty 25 9 .i64 Try.underlying25 hi hsz B d b ((b.length : Int) - (y : Int)) (by omega) (by omega) hd
  rw [show ((x : Int)).toNat = x from by omega] at t1 t2 t3 s1 s2 s3
  rw [show ((a.length : Int) - (y : Int)).toNat = a.length - y from by omega] at p1 p2 p3
  rw [show ((b.length : Int) - (y : Int)).toNat = b.length - y from by omega] at q1 q2 q3
  rw [← HT] at s1 s2 s3
  rw [← HD] at q1 q2 q3
  have hl1 : (a.take x).length ≤ 200 := by simp; omega
  have hl2 : (a.drop (a.length - y)).length ≤ 200 := by simp; omega
  obtain ⟨ta, hta⟩ : ∃ ta, ta = a.take x := ⟨_, rfl⟩
  obtain ⟨da, hda⟩ : ∃ da, da = a.drop (a.length - y) := ⟨_, rfl⟩
  rw [← hta] at t1 t2 t3 s1 s2 s3 hl1
  rw [← hda] at p1 p2 p3 q1 q2 q3 hl2
  have HS1 := Lib.hid (fun wx (hg : Grew w wx) => same_c A c B d ta wx (Kd.C_of_reads (h1 := fun _ => rfl) (t2 wx (Kd.reads_of_C (enc := Value.string) (d := ByteArray.empty) (h1 := fun _ => rfl) (Kd.C_below hr hg)))) t3 (Kd.C_of_reads (h1 := fun _ => rfl) (s2 wx (Kd.reads_of_C (enc := Value.string) (d := ByteArray.empty) (h1 := fun _ => rfl) (Kd.C_below hr1 hg)))) s3 (by omega))
  have HS2 := Lib.hid (fun wx (hg : Grew w wx) => same_c A2 _ B2 _ da wx (Kd.C_of_reads (h1 := fun _ => rfl) (p2 wx (Kd.reads_of_C (enc := Value.string) (d := ByteArray.empty) (h1 := fun _ => rfl) (Kd.C_below hr hg)))) p3 (Kd.C_of_reads (h1 := fun _ => rfl) (q2 wx (Kd.reads_of_C (enc := Value.string) (d := ByteArray.empty) (h1 := fun _ => rfl) (Kd.C_below hr1 hg)))) q3 (by omega))
  have HPP := Lib.hid hP
  clear HT HD hta hda t2 s2 p2 q2 t3 s3 p3 q3 hi hzz hsz hP
  have e1 : IntKind.i64.wrap ((a.length : Int) - (y : Int)) = (a.length : Int) - (y : Int) := IntWalk.i64_in _ (by omega)
  have e2 : IntKind.i64.wrap ((b.length : Int) - (y : Int)) = (b.length : Int) - (y : Int) := IntWalk.i64_in _ (by omega)
  have e3 : IntKind.i64.wrap ((n : Int) - (x : Int)) = (n : Int) - (x : Int) := IntWalk.i64_in _ (by omega)
  have c1 : decide ((x : Int) < 0) = false := decide_eq_false (by omega)
  have c2 : decide ((y : Int) < 0) = false := decide_eq_false (by omega)
  have c3 : decide (n < x) = false := decide_eq_false (by omega)
  have c4 : decide ((n : Int) - (x : Int) < (y : Int)) = false := decide_eq_false (by omega)
  apply region_grew [Is _, Is _, Is _, Is _, Is _, Is _, Is _, Is _, Is _, Is _, Is _, Is _, Is _, Is _, Is _, Is _, Is _, Is _, Is _, Is _, Is _, Is _, Is _, Is _, Is _, Is _, Is _, Is _, Is _, Is _, Is _, Is _, Is _, Is _, Is _, Is _, Is _, Is _, Is _, Is _, Is _] [([(5, none)], none), ([(31, some 0)], none), ([(32, some 1)], none), ([(6, none), (33, some 2)], some (33, false)), ([(34, some 3), (33, some 2)], some (33, false)), ([(33, some 2), (35, some 4)], none), ([(36, some 5)], none), ([(5, none), (37, some 6)], some (37, false)), ([(7, none), (37, some 6)], some (37, false)), ([(38, some 7), (39, some 8), (37, some 6)], some (37, false)), ([(37, some 6), (40, some 9)], none), ([(41, some 10)], none), ([(6, none), (42, some 11)], some (42, false)), ([(7, none), (42, some 11)], some (42, false)), ([(5, none), (42, some 11)], some (42, false)), ([(44, some 13), (45, some 14), (42, some 11)], some (42, false)), ([(43, some 12), (46, some 15), (42, some 11)], some (42, false)), ([(42, some 11), (47, some 16)], none), ([(48, some 17)], none), ([(0, none), (49, some 18)], some (49, false)), ([(5, none), (49, some 18)], some (49, false)), ([(50, some 19), (51, some 20), (49, some 18)], some (49, false)), ([(1, none), (49, some 18)], some (49, false)), ([(5, none), (49, some 18)], some (49, false)), ([(53, some 22), (54, some 23), (49, some 18)], some (49, false)), ([(52, some 21), (55, some 24), (49, some 18)], some (49, false)), ([(56, some 25), (49, some 18)], some (49, false)), ([(49, some 18), (57, some 26)], none), ([(58, some 27)], none), ([(0, none), (59, some 28)], some (59, false)), ([(0, none), (59, some 28)], some (59, false)), ([(61, some 30), (59, some 28)], some (59, false)), ([(6, none), (59, some 28)], some (59, false)), ([(62, some 31), (63, some 32), (59, some 28)], some (59, false)), ([(60, some 29), (64, some 33), (59, some 28)], some (59, false)), ([(1, none), (59, some 28)], some (59, false)), ([(1, none), (59, some 28)], some (59, false)), ([(67, some 36), (59, some 28)], some (59, false)), ([(6, none), (59, some 28)], some (59, false)), ([(68, some 37), (69, some 38), (59, some 28)], some (59, false)), ([(66, some 35), (70, some 39), (59, some 28)], some (59, false))] [(31, 0), (32, 1), (33, 2), (34, 3), (35, 4), (36, 5), (37, 6), (38, 7), (39, 8), (40, 9), (41, 10), (42, 11), (43, 12), (44, 13), (45, 14), (46, 15), (47, 16), (48, 17), (49, 18), (50, 19), (51, 20), (52, 21), (53, 22), (54, 23), (55, 24), (56, 25), (57, 26), (58, 27), (59, 28), (60, 29), (61, 30), (62, 31), (63, 32), (64, 33), (65, 34), (66, 35), (67, 36), (68, 37), (69, 38), (70, 39), (71, 40)] rfl (by kernel_rfl) (by kernel_rfl) (show Stable Grew _ from ⟨Is.stable _, Is.stable _, Is.stable _, Is.stable _, Is.stable _, Is.stable _, Is.stable _, Is.stable _, Is.stable _, Is.stable _, Is.stable _, Is.stable _, Is.stable _, Is.stable _, Is.stable _, Is.stable _, Is.stable _, Is.stable _, Is.stable _, Is.stable _, Is.stable _, Is.stable _, Is.stable _, Is.stable _, Is.stable _, Is.stable _, Is.stable _, Is.stable _, Is.stable _, Is.stable _, Is.stable _, Is.stable _, Is.stable _, Is.stable _, Is.stable _, Is.stable _, Is.stable _, Is.stable _, Is.stable _, Is.stable _, Is.stable _, trivial⟩)
  · show OpsHold _ _ _ _ _ _ _ _ _
    refine ⟨fun a_ wx hR hD K hK => ?_, ?_⟩
    · have hG : Grew w1 wx := (Grew.drew _).trans hR
      simp [Deps, Dep, at_, Is] at hD
      go_simp
      exact hK _ _ (Grew.refl _) rfl
    refine ⟨fun a_ wx hR hD K hK => ?_, ?_⟩
    · have hG : Grew w1 wx := (Grew.drew _).trans hR
      simp [Deps, Dep, at_, Is] at hD
      go_simp
      exact hK _ _ (Grew.refl _) rfl
    refine ⟨fun a_ wx hR hD K hK => ?_, ?_⟩
    · have hG : Grew w1 wx := (Grew.drew _).trans hR
      simp [Deps, Dep, at_, Is] at hD
      go_simp
      exact hK _ _ (Grew.refl _) rfl
    refine ⟨fun a_ wx hR hD => ⟨fun hgd K hK => ?_, fun hgd => ?_⟩, ?_⟩
    · have hG : Grew w1 wx := (Grew.drew _).trans hR
      clear hgd
      simp [Deps, Dep, at_, Is] at hD
      obtain ⟨hd0, hd1⟩ := hD
      go_simp
      exact hK _ _ (Grew.refl _) rfl
    · have hG : Grew w1 wx := (Grew.drew _).trans hR
      exfalso
      simp [Deps, Dep, at_, Is] at hD
      simp_all
    refine ⟨fun a_ wx hR hD => ⟨fun hgd K hK => ?_, fun hgd => ?_⟩, ?_⟩
    · have hG : Grew w1 wx := (Grew.drew _).trans hR
      clear hgd
      simp [Deps, Dep, at_, Is] at hD
      obtain ⟨hd0, hd1⟩ := hD
      go_simp
      exact hK _ _ (Grew.refl _) rfl
    · have hG : Grew w1 wx := (Grew.drew _).trans hR
      exfalso
      simp [Deps, Dep, at_, Is] at hD
      simp_all
    refine ⟨fun a_ wx hR hD K hK => ?_, ?_⟩
    · have hG : Grew w1 wx := (Grew.drew _).trans hR
      simp [Deps, Dep, at_, Is] at hD
      obtain ⟨hd0, hd1⟩ := hD
      go_simp
      exact hK _ _ (Grew.refl _) rfl
    refine ⟨fun a_ wx hR hD K hK => ?_, ?_⟩
    · have hG : Grew w1 wx := (Grew.drew _).trans hR
      simp [Deps, Dep, at_, Is] at hD
      go_simp
      exact hK _ _ (Grew.refl _) rfl
    refine ⟨fun a_ wx hR hD => ⟨fun hgd K hK => ?_, fun hgd => ?_⟩, ?_⟩
    · have hG : Grew w1 wx := (Grew.drew _).trans hR
      clear hgd
      simp [Deps, Dep, at_, Is] at hD
      obtain ⟨hd0, hd1⟩ := hD
      go_simp
      exact hK _ _ (Grew.refl _) rfl
    · have hG : Grew w1 wx := (Grew.drew _).trans hR
      exfalso
      simp [Deps, Dep, at_, Is] at hD
      simp_all
    refine ⟨fun a_ wx hR hD => ⟨fun hgd K hK => ?_, fun hgd => ?_⟩, ?_⟩
    · have hG : Grew w1 wx := (Grew.drew _).trans hR
      clear hgd
      simp [Deps, Dep, at_, Is] at hD
      obtain ⟨hd0, hd1⟩ := hD
      go_simp
      exact hK _ _ (Grew.refl _) rfl
    · have hG : Grew w1 wx := (Grew.drew _).trans hR
      exfalso
      simp [Deps, Dep, at_, Is] at hD
      simp_all
    refine ⟨fun a_ wx hR hD => ⟨fun hgd K hK => ?_, fun hgd => ?_⟩, ?_⟩
    · have hG : Grew w1 wx := (Grew.drew _).trans hR
      clear hgd
      simp [Deps, Dep, at_, Is] at hD
      obtain ⟨hd0, hd1, hd2⟩ := hD
      go_simp
      exact hK _ _ (Grew.refl _) rfl
    · have hG : Grew w1 wx := (Grew.drew _).trans hR
      exfalso
      simp [Deps, Dep, at_, Is] at hD
      simp_all
    refine ⟨fun a_ wx hR hD K hK => ?_, ?_⟩
    · have hG : Grew w1 wx := (Grew.drew _).trans hR
      simp [Deps, Dep, at_, Is] at hD
      obtain ⟨hd0, hd1⟩ := hD
      go_simp
      exact hK _ _ (Grew.refl _) rfl
    refine ⟨fun a_ wx hR hD K hK => ?_, ?_⟩
    · have hG : Grew w1 wx := (Grew.drew _).trans hR
      simp [Deps, Dep, at_, Is] at hD
      go_simp
      exact hK _ _ (Grew.refl _) rfl
    refine ⟨fun a_ wx hR hD => ⟨fun hgd K hK => ?_, fun hgd => ?_⟩, ?_⟩
    · have hG : Grew w1 wx := (Grew.drew _).trans hR
      clear hgd
      simp [Deps, Dep, at_, Is] at hD
      obtain ⟨hd0, hd1⟩ := hD
      go_simp
      exact hK _ _ (Grew.refl _) rfl
    · have hG : Grew w1 wx := (Grew.drew _).trans hR
      exfalso
      simp [Deps, Dep, at_, Is] at hD
      simp_all
    refine ⟨fun a_ wx hR hD => ⟨fun hgd K hK => ?_, fun hgd => ?_⟩, ?_⟩
    · have hG : Grew w1 wx := (Grew.drew _).trans hR
      clear hgd
      simp [Deps, Dep, at_, Is] at hD
      obtain ⟨hd0, hd1⟩ := hD
      go_simp
      exact hK _ _ (Grew.refl _) rfl
    · have hG : Grew w1 wx := (Grew.drew _).trans hR
      exfalso
      simp [Deps, Dep, at_, Is] at hD
      simp_all
    refine ⟨fun a_ wx hR hD => ⟨fun hgd K hK => ?_, fun hgd => ?_⟩, ?_⟩
    · have hG : Grew w1 wx := (Grew.drew _).trans hR
      clear hgd
      simp [Deps, Dep, at_, Is] at hD
      obtain ⟨hd0, hd1⟩ := hD
      go_simp
      exact hK _ _ (Grew.refl _) rfl
    · have hG : Grew w1 wx := (Grew.drew _).trans hR
      exfalso
      simp [Deps, Dep, at_, Is] at hD
      simp_all
    refine ⟨fun a_ wx hR hD => ⟨fun hgd K hK => ?_, fun hgd => ?_⟩, ?_⟩
    · have hG : Grew w1 wx := (Grew.drew _).trans hR
      clear hgd
      simp [Deps, Dep, at_, Is] at hD
      obtain ⟨hd0, hd1, hd2⟩ := hD
      go_simp
      exact hK _ _ (Grew.refl _) rfl
    · have hG : Grew w1 wx := (Grew.drew _).trans hR
      exfalso
      simp [Deps, Dep, at_, Is] at hD
      simp_all
    refine ⟨fun a_ wx hR hD => ⟨fun hgd K hK => ?_, fun hgd => ?_⟩, ?_⟩
    · have hG : Grew w1 wx := (Grew.drew _).trans hR
      clear hgd
      simp [Deps, Dep, at_, Is] at hD
      obtain ⟨hd0, hd1, hd2⟩ := hD
      go_simp
      exact hK _ _ (Grew.refl _) rfl
    · have hG : Grew w1 wx := (Grew.drew _).trans hR
      exfalso
      simp [Deps, Dep, at_, Is] at hD
      simp_all
    refine ⟨fun a_ wx hR hD K hK => ?_, ?_⟩
    · have hG : Grew w1 wx := (Grew.drew _).trans hR
      simp [Deps, Dep, at_, Is] at hD
      obtain ⟨hd0, hd1⟩ := hD
      go_simp
      exact hK _ _ (Grew.refl _) rfl
    refine ⟨fun a_ wx hR hD K hK => ?_, ?_⟩
    · have hG : Grew w1 wx := (Grew.drew _).trans hR
      simp [Deps, Dep, at_, Is] at hD
      go_simp
      exact hK _ _ (Grew.refl _) rfl
    refine ⟨fun a_ wx hR hD => ⟨fun hgd K hK => ?_, fun hgd => ?_⟩, ?_⟩
    · have hG : Grew w1 wx := (Grew.drew _).trans hR
      clear hgd
      simp [Deps, Dep, at_, Is] at hD
      obtain ⟨hd0, hd1⟩ := hD
      go_simp
      exact hK _ _ (Grew.refl _) rfl
    · have hG : Grew w1 wx := (Grew.drew _).trans hR
      exfalso
      simp [Deps, Dep, at_, Is] at hD
      simp_all
    refine ⟨fun a_ wx hR hD => ⟨fun hgd K hK => ?_, fun hgd => ?_⟩, ?_⟩
    · have hG : Grew w1 wx := (Grew.drew _).trans hR
      clear hgd
      simp [Deps, Dep, at_, Is] at hD
      obtain ⟨hd0, hd1⟩ := hD
      go_simp
      exact hK _ _ (Grew.refl _) rfl
    · have hG : Grew w1 wx := (Grew.drew _).trans hR
      exfalso
      simp [Deps, Dep, at_, Is] at hD
      simp_all
    refine ⟨fun a_ wx hR hD => ⟨fun hgd K hK => ?_, fun hgd => ?_⟩, ?_⟩
    · have hG : Grew w1 wx := (Grew.drew _).trans hR
      clear hgd
      simp [Deps, Dep, at_, Is] at hD
      obtain ⟨hd0, hd1, hd2⟩ := hD
      go_simp
      exact hK _ _ (Grew.refl _) rfl
    · have hG : Grew w1 wx := (Grew.drew _).trans hR
      exfalso
      simp [Deps, Dep, at_, Is] at hD
      simp_all
    refine ⟨fun a_ wx hR hD => ⟨fun hgd K hK => ?_, fun hgd => ?_⟩, ?_⟩
    · have hG : Grew w1 wx := (Grew.drew _).trans hR
      clear hgd
      simp [Deps, Dep, at_, Is] at hD
      obtain ⟨hd0, hd1⟩ := hD
      go_simp
      exact hK _ _ (Grew.refl _) rfl
    · have hG : Grew w1 wx := (Grew.drew _).trans hR
      exfalso
      simp [Deps, Dep, at_, Is] at hD
      simp_all
    refine ⟨fun a_ wx hR hD => ⟨fun hgd K hK => ?_, fun hgd => ?_⟩, ?_⟩
    · have hG : Grew w1 wx := (Grew.drew _).trans hR
      clear hgd
      simp [Deps, Dep, at_, Is] at hD
      obtain ⟨hd0, hd1⟩ := hD
      go_simp
      exact hK _ _ (Grew.refl _) rfl
    · have hG : Grew w1 wx := (Grew.drew _).trans hR
      exfalso
      simp [Deps, Dep, at_, Is] at hD
      simp_all
    refine ⟨fun a_ wx hR hD => ⟨fun hgd K hK => ?_, fun hgd => ?_⟩, ?_⟩
    · have hG : Grew w1 wx := (Grew.drew _).trans hR
      clear hgd
      simp [Deps, Dep, at_, Is] at hD
      obtain ⟨hd0, hd1, hd2⟩ := hD
      go_simp
      exact hK _ _ (Grew.refl _) rfl
    · have hG : Grew w1 wx := (Grew.drew _).trans hR
      exfalso
      simp [Deps, Dep, at_, Is] at hD
      simp_all
    refine ⟨fun a_ wx hR hD => ⟨fun hgd K hK => ?_, fun hgd => ?_⟩, ?_⟩
    · have hG : Grew w1 wx := (Grew.drew _).trans hR
      clear hgd
      simp [Deps, Dep, at_, Is] at hD
      obtain ⟨hd0, hd1, hd2⟩ := hD
      go_simp
      have hcn := HS1.out wx (hg1.trans hG)
      with_reducible refine hcn.mono ?_
      clear hcn
      rintro e wy ⟨v, rfl, hv, hg⟩
      exact hK _ _ hg hv
    · have hG : Grew w1 wx := (Grew.drew _).trans hR
      exfalso
      simp [Deps, Dep, at_, Is] at hD
      simp_all
    refine ⟨fun a_ wx hR hD => ⟨fun hgd K hK => ?_, fun hgd => ?_⟩, ?_⟩
    · have hG : Grew w1 wx := (Grew.drew _).trans hR
      clear hgd
      simp [Deps, Dep, at_, Is] at hD
      obtain ⟨hd0, hd1⟩ := hD
      go_simp
      exact hK _ _ (Grew.refl _) rfl
    · have hG : Grew w1 wx := (Grew.drew _).trans hR
      exfalso
      simp [Deps, Dep, at_, Is] at hD
      simp_all
    refine ⟨fun a_ wx hR hD K hK => ?_, ?_⟩
    · have hG : Grew w1 wx := (Grew.drew _).trans hR
      simp [Deps, Dep, at_, Is] at hD
      obtain ⟨hd0, hd1⟩ := hD
      go_simp
      exact hK _ _ (Grew.refl _) rfl
    refine ⟨fun a_ wx hR hD K hK => ?_, ?_⟩
    · have hG : Grew w1 wx := (Grew.drew _).trans hR
      simp [Deps, Dep, at_, Is] at hD
      go_simp
      exact hK _ _ (Grew.refl _) rfl
    refine ⟨fun a_ wx hR hD => ⟨fun hgd K hK => ?_, fun hgd => ?_⟩, ?_⟩
    · have hG : Grew w1 wx := (Grew.drew _).trans hR
      clear hgd
      simp [Deps, Dep, at_, Is] at hD
      obtain ⟨hd0, hd1⟩ := hD
      go_simp
      exact hK _ _ (Grew.refl _) rfl
    · have hG : Grew w1 wx := (Grew.drew _).trans hR
      exfalso
      simp [Deps, Dep, at_, Is] at hD
      simp_all
    refine ⟨fun a_ wx hR hD => ⟨fun hgd K hK => ?_, fun hgd => ?_⟩, ?_⟩
    · have hG : Grew w1 wx := (Grew.drew _).trans hR
      clear hgd
      simp [Deps, Dep, at_, Is] at hD
      obtain ⟨hd0, hd1⟩ := hD
      go_simp
      exact hK _ _ (Grew.refl _) rfl
    · have hG : Grew w1 wx := (Grew.drew _).trans hR
      exfalso
      simp [Deps, Dep, at_, Is] at hD
      simp_all
    refine ⟨fun a_ wx hR hD => ⟨fun hgd K hK => ?_, fun hgd => ?_⟩, ?_⟩
    · have hG : Grew w1 wx := (Grew.drew _).trans hR
      clear hgd
      simp [Deps, Dep, at_, Is] at hD
      obtain ⟨hd0, hd1⟩ := hD
      go_simp
      exact hK _ _ (Grew.refl _) rfl
    · have hG : Grew w1 wx := (Grew.drew _).trans hR
      exfalso
      simp [Deps, Dep, at_, Is] at hD
      simp_all
    refine ⟨fun a_ wx hR hD => ⟨fun hgd K hK => ?_, fun hgd => ?_⟩, ?_⟩
    · have hG : Grew w1 wx := (Grew.drew _).trans hR
      clear hgd
      simp [Deps, Dep, at_, Is] at hD
      obtain ⟨hd0, hd1⟩ := hD
      go_simp
      exact hK _ _ (Grew.refl _) rfl
    · have hG : Grew w1 wx := (Grew.drew _).trans hR
      exfalso
      simp [Deps, Dep, at_, Is] at hD
      simp_all
    refine ⟨fun a_ wx hR hD => ⟨fun hgd K hK => ?_, fun hgd => ?_⟩, ?_⟩
    · have hG : Grew w1 wx := (Grew.drew _).trans hR
      clear hgd
      simp [Deps, Dep, at_, Is] at hD
      obtain ⟨hd0, hd1, hd2⟩ := hD
      go_simp
      exact hK _ _ (Grew.refl _) rfl
    · have hG : Grew w1 wx := (Grew.drew _).trans hR
      exfalso
      simp [Deps, Dep, at_, Is] at hD
      simp_all
    refine ⟨fun a_ wx hR hD => ⟨fun hgd K hK => ?_, fun hgd => ?_⟩, ?_⟩
    · have hG : Grew w1 wx := (Grew.drew _).trans hR
      clear hgd
      simp [Deps, Dep, at_, Is] at hD
      obtain ⟨hd0, hd1, hd2⟩ := hD
      go_simp
      exact hK _ _ (Grew.refl _) rfl
    · have hG : Grew w1 wx := (Grew.drew _).trans hR
      exfalso
      simp [Deps, Dep, at_, Is] at hD
      simp_all
    refine ⟨fun a_ wx hR hD => ⟨fun hgd K hK => ?_, fun hgd => ?_⟩, ?_⟩
    · have hG : Grew w1 wx := (Grew.drew _).trans hR
      clear hgd
      simp [Deps, Dep, at_, Is] at hD
      obtain ⟨hd0, hd1⟩ := hD
      go_simp
      exact hK _ _ (Grew.refl _) rfl
    · have hG : Grew w1 wx := (Grew.drew _).trans hR
      exfalso
      simp [Deps, Dep, at_, Is] at hD
      simp_all
    refine ⟨fun a_ wx hR hD => ⟨fun hgd K hK => ?_, fun hgd => ?_⟩, ?_⟩
    · have hG : Grew w1 wx := (Grew.drew _).trans hR
      clear hgd
      simp [Deps, Dep, at_, Is] at hD
      obtain ⟨hd0, hd1⟩ := hD
      go_simp
      exact hK _ _ (Grew.refl _) rfl
    · have hG : Grew w1 wx := (Grew.drew _).trans hR
      exfalso
      simp [Deps, Dep, at_, Is] at hD
      simp_all
    refine ⟨fun a_ wx hR hD => ⟨fun hgd K hK => ?_, fun hgd => ?_⟩, ?_⟩
    · have hG : Grew w1 wx := (Grew.drew _).trans hR
      clear hgd
      simp [Deps, Dep, at_, Is] at hD
      obtain ⟨hd0, hd1⟩ := hD
      go_simp
      exact hK _ _ (Grew.refl _) rfl
    · have hG : Grew w1 wx := (Grew.drew _).trans hR
      exfalso
      simp [Deps, Dep, at_, Is] at hD
      simp_all
    refine ⟨fun a_ wx hR hD => ⟨fun hgd K hK => ?_, fun hgd => ?_⟩, ?_⟩
    · have hG : Grew w1 wx := (Grew.drew _).trans hR
      clear hgd
      simp [Deps, Dep, at_, Is] at hD
      obtain ⟨hd0, hd1⟩ := hD
      go_simp
      exact hK _ _ (Grew.refl _) rfl
    · have hG : Grew w1 wx := (Grew.drew _).trans hR
      exfalso
      simp [Deps, Dep, at_, Is] at hD
      simp_all
    refine ⟨fun a_ wx hR hD => ⟨fun hgd K hK => ?_, fun hgd => ?_⟩, ?_⟩
    · have hG : Grew w1 wx := (Grew.drew _).trans hR
      clear hgd
      simp [Deps, Dep, at_, Is] at hD
      obtain ⟨hd0, hd1, hd2⟩ := hD
      go_simp
      exact hK _ _ (Grew.refl _) rfl
    · have hG : Grew w1 wx := (Grew.drew _).trans hR
      exfalso
      simp [Deps, Dep, at_, Is] at hD
      simp_all
    refine ⟨fun a_ wx hR hD => ⟨fun hgd K hK => ?_, fun hgd => ?_⟩, ?_⟩
    · have hG : Grew w1 wx := (Grew.drew _).trans hR
      clear hgd
      simp [Deps, Dep, at_, Is] at hD
      obtain ⟨hd0, hd1, hd2⟩ := hD
      go_simp
      exact hK _ _ (Grew.refl _) rfl
    · have hG : Grew w1 wx := (Grew.drew _).trans hR
      exfalso
      simp [Deps, Dep, at_, Is] at hD
      simp_all
    trivial
  · show EndHold _ _ _ _ _ _ _
    refine end_all (xs := [_, _, _, _, _, _, _, _, _, _, _, _, _, _, _, _, _, _, _, _, _, _, _, _, _, _, _, _, _, _, _, _, _, _, _, _, _, _, _, _, _]) ⟨rfl, rfl, rfl, rfl, rfl, rfl, rfl, rfl, rfl, rfl, rfl, rfl, rfl, rfl, rfl, rfl, rfl, rfl, rfl, rfl, rfl, rfl, rfl, rfl, rfl, rfl, rfl, rfl, rfl, rfl, rfl, rfl, rfl, rfl, rfl, rfl, rfl, rfl, rfl, rfl, rfl, trivial⟩ ?_
    rintro w2 hR1 -
    refine ⟨?_⟩
    have hG_w2 : Grew w1 w2 := (Grew.drew _).trans hR1
    clear hR1
    simp only [Act.put, List.setIfInBounds_toArray, List.set_cons_succ, List.set_cons_zero, dropN, putEach]
    go_wp2_with fail
    refine (HS2.out _ (hg1.trans hG_w2)).mono ?_
    rintro e w3 ⟨_, rfl, rfl, hg3⟩
    have hgw3 : Grew w w3 := hg1.trans (hG_w2.trans hg3)
    clear HS1 HS2 s1 t1 q1 p1 e1 e2 c1 c2 c3 c4
    by_cases hxn : x < n
    · have d3 : decide (x < n) = true := decide_eq_true hxn
      obtain ⟨ad, rfl, hca⟩ := strs_at (Kd.C_below hr hgw3) x (by omega)
      obtain ⟨bd, rfl, hcb⟩ := strs_at (Kd.C_below hr1 hgw3) x (by omega)
      have hne := HPP.out.xn (by rw [← HN.out]; exact hxn)
      have HA := Lib.hid hca
      have HB := Lib.hid hcb
      have dne : decide ((at0 a x).toList = (at0 b x).toList) = false := decide_eq_false fun h => hne (toList_inj h)
      have dne2 : ((at0 a x).toList == (at0 b x).toList) = false := by simpa using dne
      have ha1 : x < a.length := by omega
      have hb1 : x < b.length := by omega
      clear hca hcb hne
      go_wp2_with fail
      apply region_grew [Is _, Is _, Is _, Is _, Is _, Is _, Is _, Is _, Is _, Is _, Is _, Is _] [([(5, none)], none), ([(7, none)], none), ([(75, some 0), (76, some 1)], none), ([(77, some 2)], none), ([(0, none), (78, some 3)], some (78, true)), ([(5, none), (78, some 3)], some (78, true)), ([(79, some 4), (80, some 5), (78, some 3)], some (78, true)), ([(81, some 6), (78, some 3)], some (78, true)), ([(1, none), (78, some 3)], some (78, true)), ([(5, none), (78, some 3)], some (78, true)), ([(83, some 8), (84, some 9), (78, some 3)], some (78, true)), ([(85, some 10), (78, some 3)], some (78, true))] [(75, 0), (76, 1), (77, 2), (78, 3), (79, 4), (80, 5), (81, 6), (82, 7), (83, 8), (84, 9), (85, 10), (86, 11)] rfl (by kernel_rfl) (by kernel_rfl) (show Stable Grew _ from ⟨Is.stable _, Is.stable _, Is.stable _, Is.stable _, Is.stable _, Is.stable _, Is.stable _, Is.stable _, Is.stable _, Is.stable _, Is.stable _, Is.stable _, trivial⟩)
      · show OpsHold _ _ _ _ _ _ _ _ _
        refine ⟨fun a_ wx hR hD K hK => ?_, ?_⟩
        · have hG : Grew w3 wx := (Grew.drew _).trans hR
          simp [Deps, Dep, at_, Is] at hD
          go_simp
          exact hK _ _ (Grew.refl _) rfl
        refine ⟨fun a_ wx hR hD K hK => ?_, ?_⟩
        · have hG : Grew w3 wx := (Grew.drew _).trans hR
          simp [Deps, Dep, at_, Is] at hD
          go_simp
          exact hK _ _ (Grew.refl _) rfl
        refine ⟨fun a_ wx hR hD K hK => ?_, ?_⟩
        · have hG : Grew w3 wx := (Grew.drew _).trans hR
          simp [Deps, Dep, at_, Is] at hD
          obtain ⟨hd0, hd1⟩ := hD
          go_simp
          exact hK _ _ (Grew.refl _) rfl
        refine ⟨fun a_ wx hR hD K hK => ?_, ?_⟩
        · have hG : Grew w3 wx := (Grew.drew _).trans hR
          simp [Deps, Dep, at_, Is] at hD
          go_simp
          exact hK _ _ (Grew.refl _) rfl
        refine ⟨fun a_ wx hR hD => ⟨fun hgd K hK => ?_, fun hgd => ?_⟩, ?_⟩
        · have hG : Grew w3 wx := (Grew.drew _).trans hR
          clear hgd
          simp [Deps, Dep, at_, Is] at hD
          obtain ⟨hd0, hd1⟩ := hD
          go_simp
          exact hK _ _ (Grew.refl _) rfl
        · have hG : Grew w3 wx := (Grew.drew _).trans hR
          exfalso
          simp [Deps, Dep, at_, Is] at hD
          simp_all
        refine ⟨fun a_ wx hR hD => ⟨fun hgd K hK => ?_, fun hgd => ?_⟩, ?_⟩
        · have hG : Grew w3 wx := (Grew.drew _).trans hR
          clear hgd
          simp [Deps, Dep, at_, Is] at hD
          obtain ⟨hd0, hd1⟩ := hD
          go_simp
          exact hK _ _ (Grew.refl _) rfl
        · have hG : Grew w3 wx := (Grew.drew _).trans hR
          exfalso
          simp [Deps, Dep, at_, Is] at hD
          simp_all
        refine ⟨fun a_ wx hR hD => ⟨fun hgd K hK => ?_, fun hgd => ?_⟩, ?_⟩
        · have hG : Grew w3 wx := (Grew.drew _).trans hR
          clear hgd
          simp [Deps, Dep, at_, Is] at hD
          obtain ⟨hd0, hd1, hd2⟩ := hD
          go_simp
          exact hK _ _ (Grew.refl _) rfl
        · have hG : Grew w3 wx := (Grew.drew _).trans hR
          exfalso
          simp [Deps, Dep, at_, Is] at hD
          simp_all
        refine ⟨fun a_ wx hR hD => ⟨fun hgd K hK => ?_, fun hgd => ?_⟩, ?_⟩
        · have hG : Grew w3 wx := (Grew.drew _).trans hR
          clear hgd
          simp [Deps, Dep, at_, Is] at hD
          obtain ⟨hd0, hd1⟩ := hD
          have e_ := pw_cell_below hG HA.out
          go_simp
          exact hK _ _ (Grew.refl _) rfl
        · have hG : Grew w3 wx := (Grew.drew _).trans hR
          exfalso
          simp [Deps, Dep, at_, Is] at hD
          simp_all
        refine ⟨fun a_ wx hR hD => ⟨fun hgd K hK => ?_, fun hgd => ?_⟩, ?_⟩
        · have hG : Grew w3 wx := (Grew.drew _).trans hR
          clear hgd
          simp [Deps, Dep, at_, Is] at hD
          obtain ⟨hd0, hd1⟩ := hD
          go_simp
          exact hK _ _ (Grew.refl _) rfl
        · have hG : Grew w3 wx := (Grew.drew _).trans hR
          exfalso
          simp [Deps, Dep, at_, Is] at hD
          simp_all
        refine ⟨fun a_ wx hR hD => ⟨fun hgd K hK => ?_, fun hgd => ?_⟩, ?_⟩
        · have hG : Grew w3 wx := (Grew.drew _).trans hR
          clear hgd
          simp [Deps, Dep, at_, Is] at hD
          obtain ⟨hd0, hd1⟩ := hD
          go_simp
          exact hK _ _ (Grew.refl _) rfl
        · have hG : Grew w3 wx := (Grew.drew _).trans hR
          exfalso
          simp [Deps, Dep, at_, Is] at hD
          simp_all
        refine ⟨fun a_ wx hR hD => ⟨fun hgd K hK => ?_, fun hgd => ?_⟩, ?_⟩
        · have hG : Grew w3 wx := (Grew.drew _).trans hR
          clear hgd
          simp [Deps, Dep, at_, Is] at hD
          obtain ⟨hd0, hd1, hd2⟩ := hD
          go_simp
          exact hK _ _ (Grew.refl _) rfl
        · have hG : Grew w3 wx := (Grew.drew _).trans hR
          exfalso
          simp [Deps, Dep, at_, Is] at hD
          simp_all
        refine ⟨fun a_ wx hR hD => ⟨fun hgd K hK => ?_, fun hgd => ?_⟩, ?_⟩
        · have hG : Grew w3 wx := (Grew.drew _).trans hR
          clear hgd
          simp [Deps, Dep, at_, Is] at hD
          obtain ⟨hd0, hd1⟩ := hD
          have e_ := pw_cell_below hG HB.out
          go_simp
          exact hK _ _ (Grew.refl _) rfl
        · have hG : Grew w3 wx := (Grew.drew _).trans hR
          exfalso
          simp [Deps, Dep, at_, Is] at hD
          simp_all
        trivial
      · show EndHold _ _ _ _ _ _ _
        refine end_all (xs := [_, _, _, _, _, _, _, _, _, _, _, _]) ⟨rfl, rfl, rfl, rfl, rfl, rfl, rfl, rfl, rfl, rfl, rfl, rfl, trivial⟩ ?_
        rintro w4 hR1 -
        refine ⟨?_⟩
        have hG_w4 : Grew w3 w4 := (Grew.drew _).trans hR1
        clear hR1
        simp only [Act.put, List.setIfInBounds_toArray, List.set_cons_succ, List.set_cons_zero, dropN, putEach]
        have hgw4 := hgw3.trans hG_w4
        go_wp2_with fail
        clear dne dne2
        by_cases hyn : y < n - x
        · have d4 : decide ((y : Int) < (n : Int) - (x : Int)) = true := decide_eq_true (by omega)
          obtain ⟨ad, hA, hca⟩ := strs_at (Kd.C_below hr hgw4) (a.length - 1 - y) (by omega)
          obtain ⟨bd, hB, hcb⟩ := strs_at (Kd.C_below hr1 hgw4) (b.length - 1 - y) (by omega)
          have hne := HPP.out.yn (by rw [← HN.out]; exact hyn)
          have s1 : IntKind.i64.wrap ((a.length : Int) - 1) = (a.length : Int) - 1 := IntWalk.i64_in _ (by omega)
          have s2 : IntKind.i64.wrap ((b.length : Int) - 1) = (b.length : Int) - 1 := IntWalk.i64_in _ (by omega)
          have s3 : IntKind.i64.wrap ((a.length : Int) - 1 - (y : Int)) = ((a.length - 1 - y : Nat) : Int) := (IntWalk.i64_in _ (by omega)).trans (by omega)
          have s4 : IntKind.i64.wrap ((b.length : Int) - 1 - (y : Int)) = ((b.length - 1 - y : Nat) : Int) := (IntWalk.i64_in _ (by omega)).trans (by omega)
          have g1 : a.length - 1 - y < a.length := by omega
          have g2 : b.length - 1 - y < b.length := by omega
          obtain ⟨p, hp⟩ : ∃ p, p = a.length - 1 - y := ⟨_, rfl⟩
          obtain ⟨q, hq⟩ : ∃ q, q = b.length - 1 - y := ⟨_, rfl⟩
          rw [← hp] at s3 g1 hca hne
          rw [← hq] at s4 g2 hcb hne
          clear hp hq
          have HA2 := Lib.hid hca
          have HB2 := Lib.hid hcb
          have dne : decide ((at0 a p).toList = (at0 b q).toList) = false := decide_eq_false fun h => hne (toList_inj h)
          have dne2 : ((at0 a p).toList == (at0 b q).toList) = false := by simpa using dne
          clear hca hcb hne hyn
          obtain rfl := Option.some.inj hA
          obtain rfl := Option.some.inj hB
          clear hA hB
          apply region_grew [Is _, Is _, Is _, Is _, Is _, Is _, Is _, Is _, Is _, Is _, Is _, Is _, Is _, Is _, Is _, Is _, Is _, Is _, Is _, Is _, Is _, Is _] [([(6, none)], none), ([(7, none)], none), ([(5, none)], none), ([(90, some 1), (91, some 2)], none), ([(89, some 0), (92, some 3)], none), ([(93, some 4)], none), ([(0, none), (94, some 5)], some (94, true)), ([(0, none), (94, some 5)], some (94, true)), ([(96, some 7), (94, some 5)], some (94, true)), ([(97, some 8), (94, some 5)], some (94, true)), ([(6, none), (94, some 5)], some (94, true)), ([(98, some 9), (99, some 10), (94, some 5)], some (94, true)), ([(95, some 6), (100, some 11), (94, some 5)], some (94, true)), ([(101, some 12), (94, some 5)], some (94, true)), ([(1, none), (94, some 5)], some (94, true)), ([(1, none), (94, some 5)], some (94, true)), ([(104, some 15), (94, some 5)], some (94, true)), ([(105, some 16), (94, some 5)], some (94, true)), ([(6, none), (94, some 5)], some (94, true)), ([(106, some 17), (107, some 18), (94, some 5)], some (94, true)), ([(103, some 14), (108, some 19), (94, some 5)], some (94, true)), ([(109, some 20), (94, some 5)], some (94, true))] [(89, 0), (90, 1), (91, 2), (92, 3), (93, 4), (94, 5), (95, 6), (96, 7), (97, 8), (98, 9), (99, 10), (100, 11), (101, 12), (102, 13), (103, 14), (104, 15), (105, 16), (106, 17), (107, 18), (108, 19), (109, 20), (110, 21)] rfl (by kernel_rfl) (by kernel_rfl) (show Stable Grew _ from ⟨Is.stable _, Is.stable _, Is.stable _, Is.stable _, Is.stable _, Is.stable _, Is.stable _, Is.stable _, Is.stable _, Is.stable _, Is.stable _, Is.stable _, Is.stable _, Is.stable _, Is.stable _, Is.stable _, Is.stable _, Is.stable _, Is.stable _, Is.stable _, Is.stable _, Is.stable _, trivial⟩)
          · show OpsHold _ _ _ _ _ _ _ _ _
            refine ⟨fun a_ wx hR hD K hK => ?_, ?_⟩
            · have hG : Grew w4 wx := (Grew.drew _).trans hR
              simp [Deps, Dep, at_, Is] at hD
              go_simp
              exact hK _ _ (Grew.refl _) rfl
            refine ⟨fun a_ wx hR hD K hK => ?_, ?_⟩
            · have hG : Grew w4 wx := (Grew.drew _).trans hR
              simp [Deps, Dep, at_, Is] at hD
              go_simp
              exact hK _ _ (Grew.refl _) rfl
            refine ⟨fun a_ wx hR hD K hK => ?_, ?_⟩
            · have hG : Grew w4 wx := (Grew.drew _).trans hR
              simp [Deps, Dep, at_, Is] at hD
              go_simp
              exact hK _ _ (Grew.refl _) rfl
            refine ⟨fun a_ wx hR hD K hK => ?_, ?_⟩
            · have hG : Grew w4 wx := (Grew.drew _).trans hR
              simp [Deps, Dep, at_, Is] at hD
              obtain ⟨hd0, hd1⟩ := hD
              go_simp
              exact hK _ _ (Grew.refl _) rfl
            refine ⟨fun a_ wx hR hD K hK => ?_, ?_⟩
            · have hG : Grew w4 wx := (Grew.drew _).trans hR
              simp [Deps, Dep, at_, Is] at hD
              obtain ⟨hd0, hd1⟩ := hD
              go_simp
              exact hK _ _ (Grew.refl _) rfl
            refine ⟨fun a_ wx hR hD K hK => ?_, ?_⟩
            · have hG : Grew w4 wx := (Grew.drew _).trans hR
              simp [Deps, Dep, at_, Is] at hD
              go_simp
              exact hK _ _ (Grew.refl _) rfl
            refine ⟨fun a_ wx hR hD => ⟨fun hgd K hK => ?_, fun hgd => ?_⟩, ?_⟩
            · have hG : Grew w4 wx := (Grew.drew _).trans hR
              clear hgd
              simp [Deps, Dep, at_, Is] at hD
              obtain ⟨hd0, hd1⟩ := hD
              go_simp
              exact hK _ _ (Grew.refl _) rfl
            · have hG : Grew w4 wx := (Grew.drew _).trans hR
              exfalso
              simp [Deps, Dep, at_, Is] at hD
              simp_all
            refine ⟨fun a_ wx hR hD => ⟨fun hgd K hK => ?_, fun hgd => ?_⟩, ?_⟩
            · have hG : Grew w4 wx := (Grew.drew _).trans hR
              clear hgd
              simp [Deps, Dep, at_, Is] at hD
              obtain ⟨hd0, hd1⟩ := hD
              go_simp
              exact hK _ _ (Grew.refl _) rfl
            · have hG : Grew w4 wx := (Grew.drew _).trans hR
              exfalso
              simp [Deps, Dep, at_, Is] at hD
              simp_all
            refine ⟨fun a_ wx hR hD => ⟨fun hgd K hK => ?_, fun hgd => ?_⟩, ?_⟩
            · have hG : Grew w4 wx := (Grew.drew _).trans hR
              clear hgd
              simp [Deps, Dep, at_, Is] at hD
              obtain ⟨hd0, hd1⟩ := hD
              go_simp
              exact hK _ _ (Grew.refl _) rfl
            · have hG : Grew w4 wx := (Grew.drew _).trans hR
              exfalso
              simp [Deps, Dep, at_, Is] at hD
              simp_all
            refine ⟨fun a_ wx hR hD => ⟨fun hgd K hK => ?_, fun hgd => ?_⟩, ?_⟩
            · have hG : Grew w4 wx := (Grew.drew _).trans hR
              clear hgd
              simp [Deps, Dep, at_, Is] at hD
              obtain ⟨hd0, hd1⟩ := hD
              go_simp
              exact hK _ _ (Grew.refl _) rfl
            · have hG : Grew w4 wx := (Grew.drew _).trans hR
              exfalso
              simp [Deps, Dep, at_, Is] at hD
              simp_all
            refine ⟨fun a_ wx hR hD => ⟨fun hgd K hK => ?_, fun hgd => ?_⟩, ?_⟩
            · have hG : Grew w4 wx := (Grew.drew _).trans hR
              clear hgd
              simp [Deps, Dep, at_, Is] at hD
              obtain ⟨hd0, hd1⟩ := hD
              go_simp
              exact hK _ _ (Grew.refl _) rfl
            · have hG : Grew w4 wx := (Grew.drew _).trans hR
              exfalso
              simp [Deps, Dep, at_, Is] at hD
              simp_all
            refine ⟨fun a_ wx hR hD => ⟨fun hgd K hK => ?_, fun hgd => ?_⟩, ?_⟩
            · have hG : Grew w4 wx := (Grew.drew _).trans hR
              clear hgd
              simp [Deps, Dep, at_, Is] at hD
              obtain ⟨hd0, hd1, hd2⟩ := hD
              go_simp
              exact hK _ _ (Grew.refl _) rfl
            · have hG : Grew w4 wx := (Grew.drew _).trans hR
              exfalso
              simp [Deps, Dep, at_, Is] at hD
              simp_all
            refine ⟨fun a_ wx hR hD => ⟨fun hgd K hK => ?_, fun hgd => ?_⟩, ?_⟩
            · have hG : Grew w4 wx := (Grew.drew _).trans hR
              clear hgd
              simp [Deps, Dep, at_, Is] at hD
              obtain ⟨hd0, hd1, hd2⟩ := hD
              go_simp
              exact hK _ _ (Grew.refl _) rfl
            · have hG : Grew w4 wx := (Grew.drew _).trans hR
              exfalso
              simp [Deps, Dep, at_, Is] at hD
              simp_all
            refine ⟨fun a_ wx hR hD => ⟨fun hgd K hK => ?_, fun hgd => ?_⟩, ?_⟩
            · have hG : Grew w4 wx := (Grew.drew _).trans hR
              clear hgd
              simp [Deps, Dep, at_, Is] at hD
              obtain ⟨hd0, hd1⟩ := hD
              have e_ := pw_cell_below hG HA2.out
              go_simp
              exact hK _ _ (Grew.refl _) rfl
            · have hG : Grew w4 wx := (Grew.drew _).trans hR
              exfalso
              simp [Deps, Dep, at_, Is] at hD
              simp_all
            refine ⟨fun a_ wx hR hD => ⟨fun hgd K hK => ?_, fun hgd => ?_⟩, ?_⟩
            · have hG : Grew w4 wx := (Grew.drew _).trans hR
              clear hgd
              simp [Deps, Dep, at_, Is] at hD
              obtain ⟨hd0, hd1⟩ := hD
              go_simp
              exact hK _ _ (Grew.refl _) rfl
            · have hG : Grew w4 wx := (Grew.drew _).trans hR
              exfalso
              simp [Deps, Dep, at_, Is] at hD
              simp_all
            refine ⟨fun a_ wx hR hD => ⟨fun hgd K hK => ?_, fun hgd => ?_⟩, ?_⟩
            · have hG : Grew w4 wx := (Grew.drew _).trans hR
              clear hgd
              simp [Deps, Dep, at_, Is] at hD
              obtain ⟨hd0, hd1⟩ := hD
              go_simp
              exact hK _ _ (Grew.refl _) rfl
            · have hG : Grew w4 wx := (Grew.drew _).trans hR
              exfalso
              simp [Deps, Dep, at_, Is] at hD
              simp_all
            refine ⟨fun a_ wx hR hD => ⟨fun hgd K hK => ?_, fun hgd => ?_⟩, ?_⟩
            · have hG : Grew w4 wx := (Grew.drew _).trans hR
              clear hgd
              simp [Deps, Dep, at_, Is] at hD
              obtain ⟨hd0, hd1⟩ := hD
              go_simp
              exact hK _ _ (Grew.refl _) rfl
            · have hG : Grew w4 wx := (Grew.drew _).trans hR
              exfalso
              simp [Deps, Dep, at_, Is] at hD
              simp_all
            refine ⟨fun a_ wx hR hD => ⟨fun hgd K hK => ?_, fun hgd => ?_⟩, ?_⟩
            · have hG : Grew w4 wx := (Grew.drew _).trans hR
              clear hgd
              simp [Deps, Dep, at_, Is] at hD
              obtain ⟨hd0, hd1⟩ := hD
              go_simp
              exact hK _ _ (Grew.refl _) rfl
            · have hG : Grew w4 wx := (Grew.drew _).trans hR
              exfalso
              simp [Deps, Dep, at_, Is] at hD
              simp_all
            refine ⟨fun a_ wx hR hD => ⟨fun hgd K hK => ?_, fun hgd => ?_⟩, ?_⟩
            · have hG : Grew w4 wx := (Grew.drew _).trans hR
              clear hgd
              simp [Deps, Dep, at_, Is] at hD
              obtain ⟨hd0, hd1⟩ := hD
              go_simp
              exact hK _ _ (Grew.refl _) rfl
            · have hG : Grew w4 wx := (Grew.drew _).trans hR
              exfalso
              simp [Deps, Dep, at_, Is] at hD
              simp_all
            refine ⟨fun a_ wx hR hD => ⟨fun hgd K hK => ?_, fun hgd => ?_⟩, ?_⟩
            · have hG : Grew w4 wx := (Grew.drew _).trans hR
              clear hgd
              simp [Deps, Dep, at_, Is] at hD
              obtain ⟨hd0, hd1, hd2⟩ := hD
              go_simp
              exact hK _ _ (Grew.refl _) rfl
            · have hG : Grew w4 wx := (Grew.drew _).trans hR
              exfalso
              simp [Deps, Dep, at_, Is] at hD
              simp_all
            refine ⟨fun a_ wx hR hD => ⟨fun hgd K hK => ?_, fun hgd => ?_⟩, ?_⟩
            · have hG : Grew w4 wx := (Grew.drew _).trans hR
              clear hgd
              simp [Deps, Dep, at_, Is] at hD
              obtain ⟨hd0, hd1, hd2⟩ := hD
              go_simp
              exact hK _ _ (Grew.refl _) rfl
            · have hG : Grew w4 wx := (Grew.drew _).trans hR
              exfalso
              simp [Deps, Dep, at_, Is] at hD
              simp_all
            refine ⟨fun a_ wx hR hD => ⟨fun hgd K hK => ?_, fun hgd => ?_⟩, ?_⟩
            · have hG : Grew w4 wx := (Grew.drew _).trans hR
              clear hgd
              simp [Deps, Dep, at_, Is] at hD
              obtain ⟨hd0, hd1⟩ := hD
              have e_ := pw_cell_below hG HB2.out
              go_simp
              exact hK _ _ (Grew.refl _) rfl
            · have hG : Grew w4 wx := (Grew.drew _).trans hR
              exfalso
              simp [Deps, Dep, at_, Is] at hD
              simp_all
            trivial
          · show EndHold _ _ _ _ _ _ _
            refine end_all (xs := [_, _, _, _, _, _, _, _, _, _, _, _, _, _, _, _, _, _, _, _, _, _]) ⟨rfl, rfl, rfl, rfl, rfl, rfl, rfl, rfl, rfl, rfl, rfl, rfl, rfl, rfl, rfl, rfl, rfl, rfl, rfl, rfl, rfl, rfl, trivial⟩ ?_
            rintro w5 hR1 -
            refine ⟨?_⟩
            have hG_w5 : Grew w4 w5 := (Grew.drew _).trans hR1
            clear hR1
            simp only [Act.put, List.setIfInBounds_toArray, List.set_cons_succ, List.set_cons_zero, dropN, putEach]
            have hgw5 := hgw4.trans hG_w5
            go_wp2_with fail
            refine (end_nil _).mono ?_
            rintro e w6 ⟨_, rfl, rfl, hg6⟩
            have kc := fun (w : World) (C : Array Value) (n c : Nat) => Lib.run_convert_bytes_const (P := Try.prog) w 42 5 C n c Try.underlying42 Try.underlying5
            go_wp2_with fail
            refine (write_nil _ _).mono ?_
            rintro e w7 ⟨_, rfl, rfl, hg7⟩
            go_wp2_with fail
            refine (left_nil _).mono ?_
            rintro e w8 ⟨_, rfl, rfl, hg8⟩
            go_wp2_with fail
            refine (lives_c _).mono ?_
            rintro e w9 ⟨_, rfl, rfl, hg9⟩
            go_wp2
            go_ret
            exact ⟨_, rfl, rfl, hgw5.trans (hg6.trans (Grew.trans (Grew.alloc w6 _) (hg7.trans (hg8.trans hg9))))⟩
        · have d4 : decide ((y : Int) < (n : Int) - (x : Int)) = false := decide_eq_false (by omega)
          clear hyn
          apply region_grew [Is _, Is _, Is _, Is _, Is _, Is _, Is undef, Is undef, Is undef, Is undef, Is undef, Is undef, Is undef, Is undef, Is undef, Is undef, Is undef, Is undef, Is undef, Is undef, Is undef, Is undef] [([(6, none)], none), ([(7, none)], none), ([(5, none)], none), ([(90, some 1), (91, some 2)], none), ([(89, some 0), (92, some 3)], none), ([(93, some 4)], none), ([(0, none), (94, some 5)], some (94, true)), ([(0, none), (94, some 5)], some (94, true)), ([(96, some 7), (94, some 5)], some (94, true)), ([(97, some 8), (94, some 5)], some (94, true)), ([(6, none), (94, some 5)], some (94, true)), ([(98, some 9), (99, some 10), (94, some 5)], some (94, true)), ([(95, some 6), (100, some 11), (94, some 5)], some (94, true)), ([(101, some 12), (94, some 5)], some (94, true)), ([(1, none), (94, some 5)], some (94, true)), ([(1, none), (94, some 5)], some (94, true)), ([(104, some 15), (94, some 5)], some (94, true)), ([(105, some 16), (94, some 5)], some (94, true)), ([(6, none), (94, some 5)], some (94, true)), ([(106, some 17), (107, some 18), (94, some 5)], some (94, true)), ([(103, some 14), (108, some 19), (94, some 5)], some (94, true)), ([(109, some 20), (94, some 5)], some (94, true))] [(89, 0), (90, 1), (91, 2), (92, 3), (93, 4), (94, 5), (95, 6), (96, 7), (97, 8), (98, 9), (99, 10), (100, 11), (101, 12), (102, 13), (103, 14), (104, 15), (105, 16), (106, 17), (107, 18), (108, 19), (109, 20), (110, 21)] rfl (by kernel_rfl) (by kernel_rfl) (show Stable Grew _ from ⟨Is.stable _, Is.stable _, Is.stable _, Is.stable _, Is.stable _, Is.stable _, Is.stable _, Is.stable _, Is.stable _, Is.stable _, Is.stable _, Is.stable _, Is.stable _, Is.stable _, Is.stable _, Is.stable _, Is.stable _, Is.stable _, Is.stable _, Is.stable _, Is.stable _, Is.stable _, trivial⟩)
          · show OpsHold _ _ _ _ _ _ _ _ _
            refine ⟨fun a_ wx hR hD K hK => ?_, ?_⟩
            · have hG : Grew w4 wx := (Grew.drew _).trans hR
              simp [Deps, Dep, at_, Is] at hD
              go_simp
              exact hK _ _ (Grew.refl _) rfl
            refine ⟨fun a_ wx hR hD K hK => ?_, ?_⟩
            · have hG : Grew w4 wx := (Grew.drew _).trans hR
              simp [Deps, Dep, at_, Is] at hD
              go_simp
              exact hK _ _ (Grew.refl _) rfl
            refine ⟨fun a_ wx hR hD K hK => ?_, ?_⟩
            · have hG : Grew w4 wx := (Grew.drew _).trans hR
              simp [Deps, Dep, at_, Is] at hD
              go_simp
              exact hK _ _ (Grew.refl _) rfl
            refine ⟨fun a_ wx hR hD K hK => ?_, ?_⟩
            · have hG : Grew w4 wx := (Grew.drew _).trans hR
              simp [Deps, Dep, at_, Is] at hD
              obtain ⟨hd0, hd1⟩ := hD
              go_simp
              exact hK _ _ (Grew.refl _) rfl
            refine ⟨fun a_ wx hR hD K hK => ?_, ?_⟩
            · have hG : Grew w4 wx := (Grew.drew _).trans hR
              simp [Deps, Dep, at_, Is] at hD
              obtain ⟨hd0, hd1⟩ := hD
              go_simp
              exact hK _ _ (Grew.refl _) rfl
            refine ⟨fun a_ wx hR hD K hK => ?_, ?_⟩
            · have hG : Grew w4 wx := (Grew.drew _).trans hR
              simp [Deps, Dep, at_, Is] at hD
              go_simp
              exact hK _ _ (Grew.refl _) rfl
            refine ⟨fun a_ wx hR hD => ⟨fun hgd K hK => ?_, fun hgd => ?_⟩, ?_⟩
            · have hG : Grew w4 wx := (Grew.drew _).trans hR
              exfalso
              simp [Deps, Dep, at_, Is] at hD
              simp_all
            · exact rfl
            refine ⟨fun a_ wx hR hD => ⟨fun hgd K hK => ?_, fun hgd => ?_⟩, ?_⟩
            · have hG : Grew w4 wx := (Grew.drew _).trans hR
              exfalso
              simp [Deps, Dep, at_, Is] at hD
              simp_all
            · exact rfl
            refine ⟨fun a_ wx hR hD => ⟨fun hgd K hK => ?_, fun hgd => ?_⟩, ?_⟩
            · have hG : Grew w4 wx := (Grew.drew _).trans hR
              exfalso
              simp [Deps, Dep, at_, Is] at hD
              simp_all
            · exact rfl
            refine ⟨fun a_ wx hR hD => ⟨fun hgd K hK => ?_, fun hgd => ?_⟩, ?_⟩
            · have hG : Grew w4 wx := (Grew.drew _).trans hR
              exfalso
              simp [Deps, Dep, at_, Is] at hD
              simp_all
            · exact rfl
            refine ⟨fun a_ wx hR hD => ⟨fun hgd K hK => ?_, fun hgd => ?_⟩, ?_⟩
            · have hG : Grew w4 wx := (Grew.drew _).trans hR
              exfalso
              simp [Deps, Dep, at_, Is] at hD
              simp_all
            · exact rfl
            refine ⟨fun a_ wx hR hD => ⟨fun hgd K hK => ?_, fun hgd => ?_⟩, ?_⟩
            · have hG : Grew w4 wx := (Grew.drew _).trans hR
              exfalso
              simp [Deps, Dep, at_, Is] at hD
              simp_all
            · exact rfl
            refine ⟨fun a_ wx hR hD => ⟨fun hgd K hK => ?_, fun hgd => ?_⟩, ?_⟩
            · have hG : Grew w4 wx := (Grew.drew _).trans hR
              exfalso
              simp [Deps, Dep, at_, Is] at hD
              simp_all
            · exact rfl
            refine ⟨fun a_ wx hR hD => ⟨fun hgd K hK => ?_, fun hgd => ?_⟩, ?_⟩
            · have hG : Grew w4 wx := (Grew.drew _).trans hR
              exfalso
              simp [Deps, Dep, at_, Is] at hD
              simp_all
            · exact rfl
            refine ⟨fun a_ wx hR hD => ⟨fun hgd K hK => ?_, fun hgd => ?_⟩, ?_⟩
            · have hG : Grew w4 wx := (Grew.drew _).trans hR
              exfalso
              simp [Deps, Dep, at_, Is] at hD
              simp_all
            · exact rfl
            refine ⟨fun a_ wx hR hD => ⟨fun hgd K hK => ?_, fun hgd => ?_⟩, ?_⟩
            · have hG : Grew w4 wx := (Grew.drew _).trans hR
              exfalso
              simp [Deps, Dep, at_, Is] at hD
              simp_all
            · exact rfl
            refine ⟨fun a_ wx hR hD => ⟨fun hgd K hK => ?_, fun hgd => ?_⟩, ?_⟩
            · have hG : Grew w4 wx := (Grew.drew _).trans hR
              exfalso
              simp [Deps, Dep, at_, Is] at hD
              simp_all
            · exact rfl
            refine ⟨fun a_ wx hR hD => ⟨fun hgd K hK => ?_, fun hgd => ?_⟩, ?_⟩
            · have hG : Grew w4 wx := (Grew.drew _).trans hR
              exfalso
              simp [Deps, Dep, at_, Is] at hD
              simp_all
            · exact rfl
            refine ⟨fun a_ wx hR hD => ⟨fun hgd K hK => ?_, fun hgd => ?_⟩, ?_⟩
            · have hG : Grew w4 wx := (Grew.drew _).trans hR
              exfalso
              simp [Deps, Dep, at_, Is] at hD
              simp_all
            · exact rfl
            refine ⟨fun a_ wx hR hD => ⟨fun hgd K hK => ?_, fun hgd => ?_⟩, ?_⟩
            · have hG : Grew w4 wx := (Grew.drew _).trans hR
              exfalso
              simp [Deps, Dep, at_, Is] at hD
              simp_all
            · exact rfl
            refine ⟨fun a_ wx hR hD => ⟨fun hgd K hK => ?_, fun hgd => ?_⟩, ?_⟩
            · have hG : Grew w4 wx := (Grew.drew _).trans hR
              exfalso
              simp [Deps, Dep, at_, Is] at hD
              simp_all
            · exact rfl
            refine ⟨fun a_ wx hR hD => ⟨fun hgd K hK => ?_, fun hgd => ?_⟩, ?_⟩
            · have hG : Grew w4 wx := (Grew.drew _).trans hR
              exfalso
              simp [Deps, Dep, at_, Is] at hD
              simp_all
            · exact rfl
            trivial
          · show EndHold _ _ _ _ _ _ _
            refine end_all (xs := [_, _, _, _, _, _, _, _, _, _, _, _, _, _, _, _, _, _, _, _, _, _]) ⟨rfl, rfl, rfl, rfl, rfl, rfl, rfl, rfl, rfl, rfl, rfl, rfl, rfl, rfl, rfl, rfl, rfl, rfl, rfl, rfl, rfl, rfl, trivial⟩ ?_
            rintro w5 hR1 -
            refine ⟨?_⟩
            have hG_w5 : Grew w4 w5 := (Grew.drew _).trans hR1
            clear hR1
            simp only [Act.put, List.setIfInBounds_toArray, List.set_cons_succ, List.set_cons_zero, dropN, putEach]
            have hgw5 := hgw4.trans hG_w5
            go_wp2_with fail
            refine (end_nil _).mono ?_
            rintro e w6 ⟨_, rfl, rfl, hg6⟩
            have kc := fun (w : World) (C : Array Value) (n c : Nat) => Lib.run_convert_bytes_const (P := Try.prog) w 42 5 C n c Try.underlying42 Try.underlying5
            go_wp2_with fail
            refine (write_nil _ _).mono ?_
            rintro e w7 ⟨_, rfl, rfl, hg7⟩
            go_wp2_with fail
            refine (left_nil _).mono ?_
            rintro e w8 ⟨_, rfl, rfl, hg8⟩
            go_wp2_with fail
            refine (lives_c _).mono ?_
            rintro e w9 ⟨_, rfl, rfl, hg9⟩
            go_wp2
            go_ret
            exact ⟨_, rfl, rfl, hgw5.trans (hg6.trans (Grew.trans (Grew.alloc w6 _) (hg7.trans (hg8.trans hg9))))⟩
    · have d3 : decide (x < n) = false := decide_eq_false hxn
      go_wp2_with fail
      apply region_grew [Is _, Is _, Is _, Is _, Is undef, Is undef, Is undef, Is undef, Is undef, Is undef, Is undef, Is undef] [([(5, none)], none), ([(7, none)], none), ([(75, some 0), (76, some 1)], none), ([(77, some 2)], none), ([(0, none), (78, some 3)], some (78, true)), ([(5, none), (78, some 3)], some (78, true)), ([(79, some 4), (80, some 5), (78, some 3)], some (78, true)), ([(81, some 6), (78, some 3)], some (78, true)), ([(1, none), (78, some 3)], some (78, true)), ([(5, none), (78, some 3)], some (78, true)), ([(83, some 8), (84, some 9), (78, some 3)], some (78, true)), ([(85, some 10), (78, some 3)], some (78, true))] [(75, 0), (76, 1), (77, 2), (78, 3), (79, 4), (80, 5), (81, 6), (82, 7), (83, 8), (84, 9), (85, 10), (86, 11)] rfl (by kernel_rfl) (by kernel_rfl) (show Stable Grew _ from ⟨Is.stable _, Is.stable _, Is.stable _, Is.stable _, Is.stable _, Is.stable _, Is.stable _, Is.stable _, Is.stable _, Is.stable _, Is.stable _, Is.stable _, trivial⟩)
      · show OpsHold _ _ _ _ _ _ _ _ _
        refine ⟨fun a_ wx hR hD K hK => ?_, ?_⟩
        · have hG : Grew w3 wx := (Grew.drew _).trans hR
          simp [Deps, Dep, at_, Is] at hD
          go_simp
          exact hK _ _ (Grew.refl _) rfl
        refine ⟨fun a_ wx hR hD K hK => ?_, ?_⟩
        · have hG : Grew w3 wx := (Grew.drew _).trans hR
          simp [Deps, Dep, at_, Is] at hD
          go_simp
          exact hK _ _ (Grew.refl _) rfl
        refine ⟨fun a_ wx hR hD K hK => ?_, ?_⟩
        · have hG : Grew w3 wx := (Grew.drew _).trans hR
          simp [Deps, Dep, at_, Is] at hD
          obtain ⟨hd0, hd1⟩ := hD
          go_simp
          exact hK _ _ (Grew.refl _) rfl
        refine ⟨fun a_ wx hR hD K hK => ?_, ?_⟩
        · have hG : Grew w3 wx := (Grew.drew _).trans hR
          simp [Deps, Dep, at_, Is] at hD
          go_simp
          exact hK _ _ (Grew.refl _) rfl
        refine ⟨fun a_ wx hR hD => ⟨fun hgd K hK => ?_, fun hgd => ?_⟩, ?_⟩
        · have hG : Grew w3 wx := (Grew.drew _).trans hR
          exfalso
          simp [Deps, Dep, at_, Is] at hD
          simp_all
        · exact rfl
        refine ⟨fun a_ wx hR hD => ⟨fun hgd K hK => ?_, fun hgd => ?_⟩, ?_⟩
        · have hG : Grew w3 wx := (Grew.drew _).trans hR
          exfalso
          simp [Deps, Dep, at_, Is] at hD
          simp_all
        · exact rfl
        refine ⟨fun a_ wx hR hD => ⟨fun hgd K hK => ?_, fun hgd => ?_⟩, ?_⟩
        · have hG : Grew w3 wx := (Grew.drew _).trans hR
          exfalso
          simp [Deps, Dep, at_, Is] at hD
          simp_all
        · exact rfl
        refine ⟨fun a_ wx hR hD => ⟨fun hgd K hK => ?_, fun hgd => ?_⟩, ?_⟩
        · have hG : Grew w3 wx := (Grew.drew _).trans hR
          exfalso
          simp [Deps, Dep, at_, Is] at hD
          simp_all
        · exact rfl
        refine ⟨fun a_ wx hR hD => ⟨fun hgd K hK => ?_, fun hgd => ?_⟩, ?_⟩
        · have hG : Grew w3 wx := (Grew.drew _).trans hR
          exfalso
          simp [Deps, Dep, at_, Is] at hD
          simp_all
        · exact rfl
        refine ⟨fun a_ wx hR hD => ⟨fun hgd K hK => ?_, fun hgd => ?_⟩, ?_⟩
        · have hG : Grew w3 wx := (Grew.drew _).trans hR
          exfalso
          simp [Deps, Dep, at_, Is] at hD
          simp_all
        · exact rfl
        refine ⟨fun a_ wx hR hD => ⟨fun hgd K hK => ?_, fun hgd => ?_⟩, ?_⟩
        · have hG : Grew w3 wx := (Grew.drew _).trans hR
          exfalso
          simp [Deps, Dep, at_, Is] at hD
          simp_all
        · exact rfl
        refine ⟨fun a_ wx hR hD => ⟨fun hgd K hK => ?_, fun hgd => ?_⟩, ?_⟩
        · have hG : Grew w3 wx := (Grew.drew _).trans hR
          exfalso
          simp [Deps, Dep, at_, Is] at hD
          simp_all
        · exact rfl
        trivial
      · show EndHold _ _ _ _ _ _ _
        refine end_all (xs := [_, _, _, _, _, _, _, _, _, _, _, _]) ⟨rfl, rfl, rfl, rfl, rfl, rfl, rfl, rfl, rfl, rfl, rfl, rfl, trivial⟩ ?_
        rintro w4 hR1 -
        refine ⟨?_⟩
        have hG_w4 : Grew w3 w4 := (Grew.drew _).trans hR1
        clear hR1
        simp only [Act.put, List.setIfInBounds_toArray, List.set_cons_succ, List.set_cons_zero, dropN, putEach]
        have hgw4 := hgw3.trans hG_w4
        go_wp2_with fail
        by_cases hyn : y < n - x
        · have d4 : decide ((y : Int) < (n : Int) - (x : Int)) = true := decide_eq_true (by omega)
          obtain ⟨ad, hA, hca⟩ := strs_at (Kd.C_below hr hgw4) (a.length - 1 - y) (by omega)
          obtain ⟨bd, hB, hcb⟩ := strs_at (Kd.C_below hr1 hgw4) (b.length - 1 - y) (by omega)
          have hne := HPP.out.yn (by rw [← HN.out]; exact hyn)
          have s1 : IntKind.i64.wrap ((a.length : Int) - 1) = (a.length : Int) - 1 := IntWalk.i64_in _ (by omega)
          have s2 : IntKind.i64.wrap ((b.length : Int) - 1) = (b.length : Int) - 1 := IntWalk.i64_in _ (by omega)
          have s3 : IntKind.i64.wrap ((a.length : Int) - 1 - (y : Int)) = ((a.length - 1 - y : Nat) : Int) := (IntWalk.i64_in _ (by omega)).trans (by omega)
          have s4 : IntKind.i64.wrap ((b.length : Int) - 1 - (y : Int)) = ((b.length - 1 - y : Nat) : Int) := (IntWalk.i64_in _ (by omega)).trans (by omega)
          have g1 : a.length - 1 - y < a.length := by omega
          have g2 : b.length - 1 - y < b.length := by omega
          obtain ⟨p, hp⟩ : ∃ p, p = a.length - 1 - y := ⟨_, rfl⟩
          obtain ⟨q, hq⟩ : ∃ q, q = b.length - 1 - y := ⟨_, rfl⟩
          rw [← hp] at s3 g1 hca hne
          rw [← hq] at s4 g2 hcb hne
          clear hp hq
          have HA2 := Lib.hid hca
          have HB2 := Lib.hid hcb
          have dne : decide ((at0 a p).toList = (at0 b q).toList) = false := decide_eq_false fun h => hne (toList_inj h)
          have dne2 : ((at0 a p).toList == (at0 b q).toList) = false := by simpa using dne
          clear hca hcb hne hyn
          subst hA
          subst hB
          apply region_grew [Is _, Is _, Is _, Is _, Is _, Is _, Is _, Is _, Is _, Is _, Is _, Is _, Is _, Is _, Is _, Is _, Is _, Is _, Is _, Is _, Is _, Is _] [([(6, none)], none), ([(7, none)], none), ([(5, none)], none), ([(90, some 1), (91, some 2)], none), ([(89, some 0), (92, some 3)], none), ([(93, some 4)], none), ([(0, none), (94, some 5)], some (94, true)), ([(0, none), (94, some 5)], some (94, true)), ([(96, some 7), (94, some 5)], some (94, true)), ([(97, some 8), (94, some 5)], some (94, true)), ([(6, none), (94, some 5)], some (94, true)), ([(98, some 9), (99, some 10), (94, some 5)], some (94, true)), ([(95, some 6), (100, some 11), (94, some 5)], some (94, true)), ([(101, some 12), (94, some 5)], some (94, true)), ([(1, none), (94, some 5)], some (94, true)), ([(1, none), (94, some 5)], some (94, true)), ([(104, some 15), (94, some 5)], some (94, true)), ([(105, some 16), (94, some 5)], some (94, true)), ([(6, none), (94, some 5)], some (94, true)), ([(106, some 17), (107, some 18), (94, some 5)], some (94, true)), ([(103, some 14), (108, some 19), (94, some 5)], some (94, true)), ([(109, some 20), (94, some 5)], some (94, true))] [(89, 0), (90, 1), (91, 2), (92, 3), (93, 4), (94, 5), (95, 6), (96, 7), (97, 8), (98, 9), (99, 10), (100, 11), (101, 12), (102, 13), (103, 14), (104, 15), (105, 16), (106, 17), (107, 18), (108, 19), (109, 20), (110, 21)] rfl (by kernel_rfl) (by kernel_rfl) (show Stable Grew _ from ⟨Is.stable _, Is.stable _, Is.stable _, Is.stable _, Is.stable _, Is.stable _, Is.stable _, Is.stable _, Is.stable _, Is.stable _, Is.stable _, Is.stable _, Is.stable _, Is.stable _, Is.stable _, Is.stable _, Is.stable _, Is.stable _, Is.stable _, Is.stable _, Is.stable _, Is.stable _, trivial⟩)
          · show OpsHold _ _ _ _ _ _ _ _ _
            refine ⟨fun a_ wx hR hD K hK => ?_, ?_⟩
            · have hG : Grew w4 wx := (Grew.drew _).trans hR
              simp [Deps, Dep, at_, Is] at hD
              go_simp
              exact hK _ _ (Grew.refl _) rfl
            refine ⟨fun a_ wx hR hD K hK => ?_, ?_⟩
            · have hG : Grew w4 wx := (Grew.drew _).trans hR
              simp [Deps, Dep, at_, Is] at hD
              go_simp
              exact hK _ _ (Grew.refl _) rfl
            refine ⟨fun a_ wx hR hD K hK => ?_, ?_⟩
            · have hG : Grew w4 wx := (Grew.drew _).trans hR
              simp [Deps, Dep, at_, Is] at hD
              go_simp
              exact hK _ _ (Grew.refl _) rfl
            refine ⟨fun a_ wx hR hD K hK => ?_, ?_⟩
            · have hG : Grew w4 wx := (Grew.drew _).trans hR
              simp [Deps, Dep, at_, Is] at hD
              obtain ⟨hd0, hd1⟩ := hD
              go_simp
              exact hK _ _ (Grew.refl _) rfl
            refine ⟨fun a_ wx hR hD K hK => ?_, ?_⟩
            · have hG : Grew w4 wx := (Grew.drew _).trans hR
              simp [Deps, Dep, at_, Is] at hD
              obtain ⟨hd0, hd1⟩ := hD
              go_simp
              exact hK _ _ (Grew.refl _) rfl
            refine ⟨fun a_ wx hR hD K hK => ?_, ?_⟩
            · have hG : Grew w4 wx := (Grew.drew _).trans hR
              simp [Deps, Dep, at_, Is] at hD
              go_simp
              exact hK _ _ (Grew.refl _) rfl
            refine ⟨fun a_ wx hR hD => ⟨fun hgd K hK => ?_, fun hgd => ?_⟩, ?_⟩
            · have hG : Grew w4 wx := (Grew.drew _).trans hR
              clear hgd
              simp [Deps, Dep, at_, Is] at hD
              obtain ⟨hd0, hd1⟩ := hD
              go_simp
              exact hK _ _ (Grew.refl _) rfl
            · have hG : Grew w4 wx := (Grew.drew _).trans hR
              exfalso
              simp [Deps, Dep, at_, Is] at hD
              simp_all
            refine ⟨fun a_ wx hR hD => ⟨fun hgd K hK => ?_, fun hgd => ?_⟩, ?_⟩
            · have hG : Grew w4 wx := (Grew.drew _).trans hR
              clear hgd
              simp [Deps, Dep, at_, Is] at hD
              obtain ⟨hd0, hd1⟩ := hD
              go_simp
              exact hK _ _ (Grew.refl _) rfl
            · have hG : Grew w4 wx := (Grew.drew _).trans hR
              exfalso
              simp [Deps, Dep, at_, Is] at hD
              simp_all
            refine ⟨fun a_ wx hR hD => ⟨fun hgd K hK => ?_, fun hgd => ?_⟩, ?_⟩
            · have hG : Grew w4 wx := (Grew.drew _).trans hR
              clear hgd
              simp [Deps, Dep, at_, Is] at hD
              obtain ⟨hd0, hd1⟩ := hD
              go_simp
              exact hK _ _ (Grew.refl _) rfl
            · have hG : Grew w4 wx := (Grew.drew _).trans hR
              exfalso
              simp [Deps, Dep, at_, Is] at hD
              simp_all
            refine ⟨fun a_ wx hR hD => ⟨fun hgd K hK => ?_, fun hgd => ?_⟩, ?_⟩
            · have hG : Grew w4 wx := (Grew.drew _).trans hR
              clear hgd
              simp [Deps, Dep, at_, Is] at hD
              obtain ⟨hd0, hd1⟩ := hD
              go_simp
              exact hK _ _ (Grew.refl _) rfl
            · have hG : Grew w4 wx := (Grew.drew _).trans hR
              exfalso
              simp [Deps, Dep, at_, Is] at hD
              simp_all
            refine ⟨fun a_ wx hR hD => ⟨fun hgd K hK => ?_, fun hgd => ?_⟩, ?_⟩
            · have hG : Grew w4 wx := (Grew.drew _).trans hR
              clear hgd
              simp [Deps, Dep, at_, Is] at hD
              obtain ⟨hd0, hd1⟩ := hD
              go_simp
              exact hK _ _ (Grew.refl _) rfl
            · have hG : Grew w4 wx := (Grew.drew _).trans hR
              exfalso
              simp [Deps, Dep, at_, Is] at hD
              simp_all
            refine ⟨fun a_ wx hR hD => ⟨fun hgd K hK => ?_, fun hgd => ?_⟩, ?_⟩
            · have hG : Grew w4 wx := (Grew.drew _).trans hR
              clear hgd
              simp [Deps, Dep, at_, Is] at hD
              obtain ⟨hd0, hd1, hd2⟩ := hD
              go_simp
              exact hK _ _ (Grew.refl _) rfl
            · have hG : Grew w4 wx := (Grew.drew _).trans hR
              exfalso
              simp [Deps, Dep, at_, Is] at hD
              simp_all
            refine ⟨fun a_ wx hR hD => ⟨fun hgd K hK => ?_, fun hgd => ?_⟩, ?_⟩
            · have hG : Grew w4 wx := (Grew.drew _).trans hR
              clear hgd
              simp [Deps, Dep, at_, Is] at hD
              obtain ⟨hd0, hd1, hd2⟩ := hD
              go_simp
              exact hK _ _ (Grew.refl _) rfl
            · have hG : Grew w4 wx := (Grew.drew _).trans hR
              exfalso
              simp [Deps, Dep, at_, Is] at hD
              simp_all
            refine ⟨fun a_ wx hR hD => ⟨fun hgd K hK => ?_, fun hgd => ?_⟩, ?_⟩
            · have hG : Grew w4 wx := (Grew.drew _).trans hR
              clear hgd
              simp [Deps, Dep, at_, Is] at hD
              obtain ⟨hd0, hd1⟩ := hD
              have e_ := pw_cell_below hG HA2.out
              go_simp
              exact hK _ _ (Grew.refl _) rfl
            · have hG : Grew w4 wx := (Grew.drew _).trans hR
              exfalso
              simp [Deps, Dep, at_, Is] at hD
              simp_all
            refine ⟨fun a_ wx hR hD => ⟨fun hgd K hK => ?_, fun hgd => ?_⟩, ?_⟩
            · have hG : Grew w4 wx := (Grew.drew _).trans hR
              clear hgd
              simp [Deps, Dep, at_, Is] at hD
              obtain ⟨hd0, hd1⟩ := hD
              go_simp
              exact hK _ _ (Grew.refl _) rfl
            · have hG : Grew w4 wx := (Grew.drew _).trans hR
              exfalso
              simp [Deps, Dep, at_, Is] at hD
              simp_all
            refine ⟨fun a_ wx hR hD => ⟨fun hgd K hK => ?_, fun hgd => ?_⟩, ?_⟩
            · have hG : Grew w4 wx := (Grew.drew _).trans hR
              clear hgd
              simp [Deps, Dep, at_, Is] at hD
              obtain ⟨hd0, hd1⟩ := hD
              go_simp
              exact hK _ _ (Grew.refl _) rfl
            · have hG : Grew w4 wx := (Grew.drew _).trans hR
              exfalso
              simp [Deps, Dep, at_, Is] at hD
              simp_all
            refine ⟨fun a_ wx hR hD => ⟨fun hgd K hK => ?_, fun hgd => ?_⟩, ?_⟩
            · have hG : Grew w4 wx := (Grew.drew _).trans hR
              clear hgd
              simp [Deps, Dep, at_, Is] at hD
              obtain ⟨hd0, hd1⟩ := hD
              go_simp
              exact hK _ _ (Grew.refl _) rfl
            · have hG : Grew w4 wx := (Grew.drew _).trans hR
              exfalso
              simp [Deps, Dep, at_, Is] at hD
              simp_all
            refine ⟨fun a_ wx hR hD => ⟨fun hgd K hK => ?_, fun hgd => ?_⟩, ?_⟩
            · have hG : Grew w4 wx := (Grew.drew _).trans hR
              clear hgd
              simp [Deps, Dep, at_, Is] at hD
              obtain ⟨hd0, hd1⟩ := hD
              go_simp
              exact hK _ _ (Grew.refl _) rfl
            · have hG : Grew w4 wx := (Grew.drew _).trans hR
              exfalso
              simp [Deps, Dep, at_, Is] at hD
              simp_all
            refine ⟨fun a_ wx hR hD => ⟨fun hgd K hK => ?_, fun hgd => ?_⟩, ?_⟩
            · have hG : Grew w4 wx := (Grew.drew _).trans hR
              clear hgd
              simp [Deps, Dep, at_, Is] at hD
              obtain ⟨hd0, hd1⟩ := hD
              go_simp
              exact hK _ _ (Grew.refl _) rfl
            · have hG : Grew w4 wx := (Grew.drew _).trans hR
              exfalso
              simp [Deps, Dep, at_, Is] at hD
              simp_all
            refine ⟨fun a_ wx hR hD => ⟨fun hgd K hK => ?_, fun hgd => ?_⟩, ?_⟩
            · have hG : Grew w4 wx := (Grew.drew _).trans hR
              clear hgd
              simp [Deps, Dep, at_, Is] at hD
              obtain ⟨hd0, hd1, hd2⟩ := hD
              go_simp
              exact hK _ _ (Grew.refl _) rfl
            · have hG : Grew w4 wx := (Grew.drew _).trans hR
              exfalso
              simp [Deps, Dep, at_, Is] at hD
              simp_all
            refine ⟨fun a_ wx hR hD => ⟨fun hgd K hK => ?_, fun hgd => ?_⟩, ?_⟩
            · have hG : Grew w4 wx := (Grew.drew _).trans hR
              clear hgd
              simp [Deps, Dep, at_, Is] at hD
              obtain ⟨hd0, hd1, hd2⟩ := hD
              go_simp
              exact hK _ _ (Grew.refl _) rfl
            · have hG : Grew w4 wx := (Grew.drew _).trans hR
              exfalso
              simp [Deps, Dep, at_, Is] at hD
              simp_all
            refine ⟨fun a_ wx hR hD => ⟨fun hgd K hK => ?_, fun hgd => ?_⟩, ?_⟩
            · have hG : Grew w4 wx := (Grew.drew _).trans hR
              clear hgd
              simp [Deps, Dep, at_, Is] at hD
              obtain ⟨hd0, hd1⟩ := hD
              have e_ := pw_cell_below hG HB2.out
              go_simp
              exact hK _ _ (Grew.refl _) rfl
            · have hG : Grew w4 wx := (Grew.drew _).trans hR
              exfalso
              simp [Deps, Dep, at_, Is] at hD
              simp_all
            trivial
          · show EndHold _ _ _ _ _ _ _
            refine end_all (xs := [_, _, _, _, _, _, _, _, _, _, _, _, _, _, _, _, _, _, _, _, _, _]) ⟨rfl, rfl, rfl, rfl, rfl, rfl, rfl, rfl, rfl, rfl, rfl, rfl, rfl, rfl, rfl, rfl, rfl, rfl, rfl, rfl, rfl, rfl, trivial⟩ ?_
            rintro w5 hR1 -
            refine ⟨?_⟩
            have hG_w5 : Grew w4 w5 := (Grew.drew _).trans hR1
            clear hR1
            simp only [Act.put, List.setIfInBounds_toArray, List.set_cons_succ, List.set_cons_zero, dropN, putEach]
            have hgw5 := hgw4.trans hG_w5
            go_wp2_with fail
            refine (end_nil _).mono ?_
            rintro e w6 ⟨_, rfl, rfl, hg6⟩
            have kc := fun (w : World) (C : Array Value) (n c : Nat) => Lib.run_convert_bytes_const (P := Try.prog) w 42 5 C n c Try.underlying42 Try.underlying5
            go_wp2_with fail
            refine (write_nil _ _).mono ?_
            rintro e w7 ⟨_, rfl, rfl, hg7⟩
            go_wp2_with fail
            refine (left_nil _).mono ?_
            rintro e w8 ⟨_, rfl, rfl, hg8⟩
            go_wp2_with fail
            refine (lives_c _).mono ?_
            rintro e w9 ⟨_, rfl, rfl, hg9⟩
            go_wp2
            go_ret
            exact ⟨_, rfl, rfl, hgw5.trans (hg6.trans (Grew.trans (Grew.alloc w6 _) (hg7.trans (hg8.trans hg9))))⟩
        · have d4 : decide ((y : Int) < (n : Int) - (x : Int)) = false := decide_eq_false (by omega)
          clear hyn
          apply region_grew [Is _, Is _, Is _, Is _, Is _, Is _, Is undef, Is undef, Is undef, Is undef, Is undef, Is undef, Is undef, Is undef, Is undef, Is undef, Is undef, Is undef, Is undef, Is undef, Is undef, Is undef] [([(6, none)], none), ([(7, none)], none), ([(5, none)], none), ([(90, some 1), (91, some 2)], none), ([(89, some 0), (92, some 3)], none), ([(93, some 4)], none), ([(0, none), (94, some 5)], some (94, true)), ([(0, none), (94, some 5)], some (94, true)), ([(96, some 7), (94, some 5)], some (94, true)), ([(97, some 8), (94, some 5)], some (94, true)), ([(6, none), (94, some 5)], some (94, true)), ([(98, some 9), (99, some 10), (94, some 5)], some (94, true)), ([(95, some 6), (100, some 11), (94, some 5)], some (94, true)), ([(101, some 12), (94, some 5)], some (94, true)), ([(1, none), (94, some 5)], some (94, true)), ([(1, none), (94, some 5)], some (94, true)), ([(104, some 15), (94, some 5)], some (94, true)), ([(105, some 16), (94, some 5)], some (94, true)), ([(6, none), (94, some 5)], some (94, true)), ([(106, some 17), (107, some 18), (94, some 5)], some (94, true)), ([(103, some 14), (108, some 19), (94, some 5)], some (94, true)), ([(109, some 20), (94, some 5)], some (94, true))] [(89, 0), (90, 1), (91, 2), (92, 3), (93, 4), (94, 5), (95, 6), (96, 7), (97, 8), (98, 9), (99, 10), (100, 11), (101, 12), (102, 13), (103, 14), (104, 15), (105, 16), (106, 17), (107, 18), (108, 19), (109, 20), (110, 21)] rfl (by kernel_rfl) (by kernel_rfl) (show Stable Grew _ from ⟨Is.stable _, Is.stable _, Is.stable _, Is.stable _, Is.stable _, Is.stable _, Is.stable _, Is.stable _, Is.stable _, Is.stable _, Is.stable _, Is.stable _, Is.stable _, Is.stable _, Is.stable _, Is.stable _, Is.stable _, Is.stable _, Is.stable _, Is.stable _, Is.stable _, Is.stable _, trivial⟩)
          · show OpsHold _ _ _ _ _ _ _ _ _
            refine ⟨fun a_ wx hR hD K hK => ?_, ?_⟩
            · have hG : Grew w4 wx := (Grew.drew _).trans hR
              simp [Deps, Dep, at_, Is] at hD
              go_simp
              exact hK _ _ (Grew.refl _) rfl
            refine ⟨fun a_ wx hR hD K hK => ?_, ?_⟩
            · have hG : Grew w4 wx := (Grew.drew _).trans hR
              simp [Deps, Dep, at_, Is] at hD
              go_simp
              exact hK _ _ (Grew.refl _) rfl
            refine ⟨fun a_ wx hR hD K hK => ?_, ?_⟩
            · have hG : Grew w4 wx := (Grew.drew _).trans hR
              simp [Deps, Dep, at_, Is] at hD
              go_simp
              exact hK _ _ (Grew.refl _) rfl
            refine ⟨fun a_ wx hR hD K hK => ?_, ?_⟩
            · have hG : Grew w4 wx := (Grew.drew _).trans hR
              simp [Deps, Dep, at_, Is] at hD
              obtain ⟨hd0, hd1⟩ := hD
              go_simp
              exact hK _ _ (Grew.refl _) rfl
            refine ⟨fun a_ wx hR hD K hK => ?_, ?_⟩
            · have hG : Grew w4 wx := (Grew.drew _).trans hR
              simp [Deps, Dep, at_, Is] at hD
              obtain ⟨hd0, hd1⟩ := hD
              go_simp
              exact hK _ _ (Grew.refl _) rfl
            refine ⟨fun a_ wx hR hD K hK => ?_, ?_⟩
            · have hG : Grew w4 wx := (Grew.drew _).trans hR
              simp [Deps, Dep, at_, Is] at hD
              go_simp
              exact hK _ _ (Grew.refl _) rfl
            refine ⟨fun a_ wx hR hD => ⟨fun hgd K hK => ?_, fun hgd => ?_⟩, ?_⟩
            · have hG : Grew w4 wx := (Grew.drew _).trans hR
              exfalso
              simp [Deps, Dep, at_, Is] at hD
              simp_all
            · exact rfl
            refine ⟨fun a_ wx hR hD => ⟨fun hgd K hK => ?_, fun hgd => ?_⟩, ?_⟩
            · have hG : Grew w4 wx := (Grew.drew _).trans hR
              exfalso
              simp [Deps, Dep, at_, Is] at hD
              simp_all
            · exact rfl
            refine ⟨fun a_ wx hR hD => ⟨fun hgd K hK => ?_, fun hgd => ?_⟩, ?_⟩
            · have hG : Grew w4 wx := (Grew.drew _).trans hR
              exfalso
              simp [Deps, Dep, at_, Is] at hD
              simp_all
            · exact rfl
            refine ⟨fun a_ wx hR hD => ⟨fun hgd K hK => ?_, fun hgd => ?_⟩, ?_⟩
            · have hG : Grew w4 wx := (Grew.drew _).trans hR
              exfalso
              simp [Deps, Dep, at_, Is] at hD
              simp_all
            · exact rfl
            refine ⟨fun a_ wx hR hD => ⟨fun hgd K hK => ?_, fun hgd => ?_⟩, ?_⟩
            · have hG : Grew w4 wx := (Grew.drew _).trans hR
              exfalso
              simp [Deps, Dep, at_, Is] at hD
              simp_all
            · exact rfl
            refine ⟨fun a_ wx hR hD => ⟨fun hgd K hK => ?_, fun hgd => ?_⟩, ?_⟩
            · have hG : Grew w4 wx := (Grew.drew _).trans hR
              exfalso
              simp [Deps, Dep, at_, Is] at hD
              simp_all
            · exact rfl
            refine ⟨fun a_ wx hR hD => ⟨fun hgd K hK => ?_, fun hgd => ?_⟩, ?_⟩
            · have hG : Grew w4 wx := (Grew.drew _).trans hR
              exfalso
              simp [Deps, Dep, at_, Is] at hD
              simp_all
            · exact rfl
            refine ⟨fun a_ wx hR hD => ⟨fun hgd K hK => ?_, fun hgd => ?_⟩, ?_⟩
            · have hG : Grew w4 wx := (Grew.drew _).trans hR
              exfalso
              simp [Deps, Dep, at_, Is] at hD
              simp_all
            · exact rfl
            refine ⟨fun a_ wx hR hD => ⟨fun hgd K hK => ?_, fun hgd => ?_⟩, ?_⟩
            · have hG : Grew w4 wx := (Grew.drew _).trans hR
              exfalso
              simp [Deps, Dep, at_, Is] at hD
              simp_all
            · exact rfl
            refine ⟨fun a_ wx hR hD => ⟨fun hgd K hK => ?_, fun hgd => ?_⟩, ?_⟩
            · have hG : Grew w4 wx := (Grew.drew _).trans hR
              exfalso
              simp [Deps, Dep, at_, Is] at hD
              simp_all
            · exact rfl
            refine ⟨fun a_ wx hR hD => ⟨fun hgd K hK => ?_, fun hgd => ?_⟩, ?_⟩
            · have hG : Grew w4 wx := (Grew.drew _).trans hR
              exfalso
              simp [Deps, Dep, at_, Is] at hD
              simp_all
            · exact rfl
            refine ⟨fun a_ wx hR hD => ⟨fun hgd K hK => ?_, fun hgd => ?_⟩, ?_⟩
            · have hG : Grew w4 wx := (Grew.drew _).trans hR
              exfalso
              simp [Deps, Dep, at_, Is] at hD
              simp_all
            · exact rfl
            refine ⟨fun a_ wx hR hD => ⟨fun hgd K hK => ?_, fun hgd => ?_⟩, ?_⟩
            · have hG : Grew w4 wx := (Grew.drew _).trans hR
              exfalso
              simp [Deps, Dep, at_, Is] at hD
              simp_all
            · exact rfl
            refine ⟨fun a_ wx hR hD => ⟨fun hgd K hK => ?_, fun hgd => ?_⟩, ?_⟩
            · have hG : Grew w4 wx := (Grew.drew _).trans hR
              exfalso
              simp [Deps, Dep, at_, Is] at hD
              simp_all
            · exact rfl
            refine ⟨fun a_ wx hR hD => ⟨fun hgd K hK => ?_, fun hgd => ?_⟩, ?_⟩
            · have hG : Grew w4 wx := (Grew.drew _).trans hR
              exfalso
              simp [Deps, Dep, at_, Is] at hD
              simp_all
            · exact rfl
            refine ⟨fun a_ wx hR hD => ⟨fun hgd K hK => ?_, fun hgd => ?_⟩, ?_⟩
            · have hG : Grew w4 wx := (Grew.drew _).trans hR
              exfalso
              simp [Deps, Dep, at_, Is] at hD
              simp_all
            · exact rfl
            trivial
          · show EndHold _ _ _ _ _ _ _
            refine end_all (xs := [_, _, _, _, _, _, _, _, _, _, _, _, _, _, _, _, _, _, _, _, _, _]) ⟨rfl, rfl, rfl, rfl, rfl, rfl, rfl, rfl, rfl, rfl, rfl, rfl, rfl, rfl, rfl, rfl, rfl, rfl, rfl, rfl, rfl, rfl, trivial⟩ ?_
            rintro w5 hR1 -
            refine ⟨?_⟩
            have hG_w5 : Grew w4 w5 := (Grew.drew _).trans hR1
            clear hR1
            simp only [Act.put, List.setIfInBounds_toArray, List.set_cons_succ, List.set_cons_zero, dropN, putEach]
            have hgw5 := hgw4.trans hG_w5
            go_wp2_with fail
            refine (end_nil _).mono ?_
            rintro e w6 ⟨_, rfl, rfl, hg6⟩
            have kc := fun (w : World) (C : Array Value) (n c : Nat) => Lib.run_convert_bytes_const (P := Try.prog) w 42 5 C n c Try.underlying42 Try.underlying5
            go_wp2_with fail
            refine (write_nil _ _).mono ?_
            rintro e w7 ⟨_, rfl, rfl, hg7⟩
            go_wp2_with fail
            refine (left_nil _).mono ?_
            rintro e w8 ⟨_, rfl, rfl, hg8⟩
            go_wp2_with fail
            refine (lives_c _).mono ?_
            rintro e w9 ⟨_, rfl, rfl, hg9⟩
            go_wp2
            go_ret
            exact ⟨_, rfl, rfl, hgw5.trans (hg6.trans (Grew.trans (Grew.alloc w6 _) (hg7.trans (hg8.trans hg9))))⟩
end Go.Proofs.Ytaeobiilihklhaa.F
