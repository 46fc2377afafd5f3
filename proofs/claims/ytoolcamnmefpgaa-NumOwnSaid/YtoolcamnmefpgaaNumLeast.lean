/- The law NumLeast: its call returns true, for all bytes and places: what is read as a number is just what is written of it. -/
import Derived.Test.YtoolcamnmefpgaaNumL
namespace Go.Proofs.Ytoolcamnmefpgaa.F
open Go Go.RowKit Go.Proofs.YtoolcamnmefpgaaW.PrintWords Go.Proofs.YtoolcamnmefpgaaW.PrintLast Go.Proofs.YtoolcamnmefpgaaW.PrintMore Go.Proofs.YtoolcamnmefpgaaM Go.Proofs.YtoolcamnmefpgaaR
set_option linter.unusedSimpArgs false
set_option linter.unusedVariables false
set_option maxRecDepth 100000
theorem put_nil_c (n : Nat) (w : World) (h : n < 18446744073709551616) : Calls Try.prog 12 #[.slice none 0 0, .int .u64 n] w (Tells w (Row (putL n))) :=
  put_c none 0 [] n w (Kd.C_nil _ _) (Nat.le_refl _) h (by simp)
theorem mid_row {A : Option Addr} {c : Nat} {l s : List Int} {w : World} {m L : Nat} (hr : Kd.C (Kd.int .u8) w A l.length l) (hc : l.length ≤ c) (hle : m + L ≤ l.length) (hs : (l.take (m + L)).drop m = s) (hL : s.length = L) :
    Row s w (.slice (if c = m then A else Option.map (fun x => x.add m) A) L (c - m)) := by
  have h := Kd.C_mid (c := c) (lo := m) (hi := m + L) hr (by omega) hle hc
  rw [hs] at h
  refine ⟨_, _, by rw [hL], by omega, ?_⟩
  have e : m * (Kd.int IntKind.u8).sz = m := Nat.mul_one m
  rw [e] at h
  exact h
set_option maxHeartbeats 4000000 in
theorem NumLeast_c (w : World) (A : Option Addr) (c : Nat) (l : List Int) (x : Int) (hr : Kd.C (Kd.int .u8) w A l.length l) (hc : l.length ≤ c) (hm : l.length ≤ maxLen) (hy : l.length * 1 ≤ 140737488351232) (hw : ∀ x ∈ l, (Lit.int .u8 x).wf = true) (hx : (Lit.int .i64 x).wf = true) :
    Calls Try.prog 6 #[.slice A l.length c, .int .i64 x] w (Tells w (Is (.bool true))) := by
  have hb := Lib.hid (bytes_of hw)
  clear hw hx
  by_cases h : l.length ≤ 20000
  · have d1 := decide_eq_true h
    have hget := fun w1 (hg1 : Grew w w1) => get_c A c l x w1 (Kd.C_below hr hg1) hc (by omega) hb.out
    by_cases he : (getL l x).2.2 = 0
    · obtain ⟨m, n, rfl, hn, hq, hle, hs⟩ := getL_ok hb.out he
      rw [hq] at hget
      clear he hq
      have hL := putL_pos n
      have HS := Lib.hid hs
      have HG := Lib.hid hget
      clear hs hget
      go_enter Try.func6, Try.ntmps6
      go_wp2_with fail
      refine (small_c A c l w hr hc true d1).mono ?_
      rintro e w1 ⟨_, rfl, rfl, hg1⟩
      go_wp2_with fail
      refine (HG.out w1 hg1).mono ?_
      rintro e w2 ⟨_, rfl, rfl, hg2⟩
      go_wp2_with fail
      apply region_grew [Is _, Is _, Is _, Is _, Is _, Is _, Is _, Is _, Is _, Is _, Is _, Is _, Is _, Row (putL n), Is _, Is _, Row (putL n), Is _] [([(6, none)], none), ([(1, none)], none), ([(30, some 0), (31, some 1)], none), ([(32, some 2)], none), ([(6, none), (33, some 3)], some (33, true)), ([(0, none), (33, some 3)], some (33, true)), ([(35, some 5), (33, some 3)], some (33, true)), ([(34, some 4), (36, some 6), (33, some 3)], some (33, true)), ([(33, some 3), (37, some 7)], none), ([(38, some 8)], none), ([(0, none), (39, some 9)], some (39, true)), ([(1, none), (39, some 9)], some (39, true)), ([(6, none), (39, some 9)], some (39, true)), ([(40, some 10), (41, some 11), (42, some 12), (39, some 9)], some (39, true)), ([(43, some 13), (39, some 9)], some (39, true)), ([(5, none), (39, some 9)], some (39, true)), ([(45, some 15), (39, some 9)], some (39, true)), ([(46, some 16), (39, some 9)], some (39, true))] [(43, 13), (46, 16), (30, 0), (31, 1), (32, 2), (33, 3), (34, 4), (35, 5), (36, 6), (37, 7), (38, 8), (39, 9), (40, 10), (41, 11), (42, 12), (44, 14), (45, 15), (47, 17)] rfl (by kernel_rfl) (by kernel_rfl) (show Stable Grew _ from ⟨Is.stable _, Is.stable _, Is.stable _, Is.stable _, Is.stable _, Is.stable _, Is.stable _, Is.stable _, Is.stable _, Is.stable _, Is.stable _, Is.stable _, Is.stable _, Row.stable _, Is.stable _, Is.stable _, Row.stable _, Is.stable _, trivial⟩)
      · show OpsHold _ _ _ _ _ _ _ _ _
        refine ⟨fun a_ wx hR hD K hK => ?_, ?_⟩
        · have hG : Grew _ wx := (Grew.drew _).trans hR
          simp [Deps, Dep, at_, Is] at hD
          go_simp
          exact hK _ _ (Grew.refl _) rfl
        refine ⟨fun a_ wx hR hD K hK => ?_, ?_⟩
        · have hG : Grew _ wx := (Grew.drew _).trans hR
          simp [Deps, Dep, at_, Is] at hD
          go_simp
          exact hK _ _ (Grew.refl _) rfl
        refine ⟨fun a_ wx hR hD K hK => ?_, ?_⟩
        · have hG : Grew _ wx := (Grew.drew _).trans hR
          simp [Deps, Dep, at_, Is] at hD
          obtain ⟨hd0, hd1⟩ := hD
          have e : (m : Int) < (m : Int) + ((putL n).length : Int) := by omega
          go_simp
          exact hK _ _ (Grew.refl _) rfl
        refine ⟨fun a_ wx hR hD K hK => ?_, ?_⟩
        · have hG : Grew _ wx := (Grew.drew _).trans hR
          simp [Deps, Dep, at_, Is] at hD
          go_simp
          exact hK _ _ (Grew.refl _) rfl
        refine ⟨fun a_ wx hR hD => ⟨fun hgd K hK => ?_, fun hgd => ?_⟩, ?_⟩
        · have hG : Grew _ wx := (Grew.drew _).trans hR
          clear hgd
          simp [Deps, Dep, at_, Is] at hD
          obtain ⟨hd0, hd1⟩ := hD
          go_simp
          exact hK _ _ (Grew.refl _) rfl
        · have hG : Grew _ wx := (Grew.drew _).trans hR
          exfalso
          simp [Deps, Dep, at_, Is] at hD
          simp_all
        refine ⟨fun a_ wx hR hD => ⟨fun hgd K hK => ?_, fun hgd => ?_⟩, ?_⟩
        · have hG : Grew _ wx := (Grew.drew _).trans hR
          clear hgd
          simp [Deps, Dep, at_, Is] at hD
          obtain ⟨hd0, hd1⟩ := hD
          go_simp
          exact hK _ _ (Grew.refl _) rfl
        · have hG : Grew _ wx := (Grew.drew _).trans hR
          exfalso
          simp [Deps, Dep, at_, Is] at hD
          simp_all
        refine ⟨fun a_ wx hR hD => ⟨fun hgd K hK => ?_, fun hgd => ?_⟩, ?_⟩
        · have hG : Grew _ wx := (Grew.drew _).trans hR
          clear hgd
          simp [Deps, Dep, at_, Is] at hD
          obtain ⟨hd0, hd1⟩ := hD
          go_simp
          exact hK _ _ (Grew.refl _) rfl
        · have hG : Grew _ wx := (Grew.drew _).trans hR
          exfalso
          simp [Deps, Dep, at_, Is] at hD
          simp_all
        refine ⟨fun a_ wx hR hD => ⟨fun hgd K hK => ?_, fun hgd => ?_⟩, ?_⟩
        · have hG : Grew _ wx := (Grew.drew _).trans hR
          clear hgd
          simp [Deps, Dep, at_, Is] at hD
          obtain ⟨hd0, hd1, hd2⟩ := hD
          have e : (m : Int) + ((putL n).length : Int) ≤ (l.length : Int) := by omega
          go_simp
          exact hK _ _ (Grew.refl _) rfl
        · have hG : Grew _ wx := (Grew.drew _).trans hR
          exfalso
          simp [Deps, Dep, at_, Is] at hD
          simp_all
        refine ⟨fun a_ wx hR hD K hK => ?_, ?_⟩
        · have hG : Grew _ wx := (Grew.drew _).trans hR
          simp [Deps, Dep, at_, Is] at hD
          obtain ⟨hd0, hd1⟩ := hD
          go_simp
          exact hK _ _ (Grew.refl _) rfl
        refine ⟨fun a_ wx hR hD K hK => ?_, ?_⟩
        · have hG : Grew _ wx := (Grew.drew _).trans hR
          simp [Deps, Dep, at_, Is] at hD
          go_simp
          exact hK _ _ (Grew.refl _) rfl
        refine ⟨fun a_ wx hR hD => ⟨fun hgd K hK => ?_, fun hgd => ?_⟩, ?_⟩
        · have hG : Grew _ wx := (Grew.drew _).trans hR
          clear hgd
          simp [Deps, Dep, at_, Is] at hD
          obtain ⟨hd0, hd1⟩ := hD
          go_simp
          exact hK _ _ (Grew.refl _) rfl
        · have hG : Grew _ wx := (Grew.drew _).trans hR
          exfalso
          simp [Deps, Dep, at_, Is] at hD
          simp_all
        refine ⟨fun a_ wx hR hD => ⟨fun hgd K hK => ?_, fun hgd => ?_⟩, ?_⟩
        · have hG : Grew _ wx := (Grew.drew _).trans hR
          clear hgd
          simp [Deps, Dep, at_, Is] at hD
          obtain ⟨hd0, hd1⟩ := hD
          go_simp
          exact hK _ _ (Grew.refl _) rfl
        · have hG : Grew _ wx := (Grew.drew _).trans hR
          exfalso
          simp [Deps, Dep, at_, Is] at hD
          simp_all
        refine ⟨fun a_ wx hR hD => ⟨fun hgd K hK => ?_, fun hgd => ?_⟩, ?_⟩
        · have hG : Grew _ wx := (Grew.drew _).trans hR
          clear hgd
          simp [Deps, Dep, at_, Is] at hD
          obtain ⟨hd0, hd1⟩ := hD
          go_simp
          exact hK _ _ (Grew.refl _) rfl
        · have hG : Grew _ wx := (Grew.drew _).trans hR
          exfalso
          simp [Deps, Dep, at_, Is] at hD
          simp_all
        refine ⟨fun a_ wx hR hD => ⟨fun hgd K hK => ?_, fun hgd => ?_⟩, ?_⟩
        · have hG : Grew _ wx := (Grew.drew _).trans hR
          clear hgd
          simp [Deps, Dep, at_, Is] at hD
          obtain ⟨hd0, hd1, hd2, hd3⟩ := hD
          have e1 : ((m : Int) + ((putL n).length : Int)).toNat = m + (putL n).length := by omega
          have e2 : 0 ≤ (m : Int) + ((putL n).length : Int) := by omega
          have e3 : (m : Int) + ((putL n).length : Int) ≤ (c : Int) := by omega
          go_simp
          exact hK _ _ (Grew.refl _) (mid_row (Kd.C_below hr (hg1.trans (hg2.trans hG))) hc hle HS.out rfl)
        · have hG : Grew _ wx := (Grew.drew _).trans hR
          exfalso
          simp [Deps, Dep, at_, Is] at hD
          simp_all
        refine ⟨fun a_ wx hR hD => ⟨fun hgd K hK => ?_, fun hgd => ?_⟩, ?_⟩
        · have hG : Grew _ wx := (Grew.drew _).trans hR
          clear hgd
          simp [Deps, Dep, at_, Is] at hD
          obtain ⟨⟨A', c', hv', hc', hC'⟩, hd1⟩ := hD
          have hcv := Kd.C_string (P := Try.prog) (c := c') Try.underlying22 Try.underlying5 Try.underlying9 hC'
          go_simp
          exact hK _ _ (Grew.refl _) rfl
        · have hG : Grew _ wx := (Grew.drew _).trans hR
          exfalso
          simp [Deps, Dep, at_, Is] at hD
          simp_all
        refine ⟨fun a_ wx hR hD => ⟨fun hgd K hK => ?_, fun hgd => ?_⟩, ?_⟩
        · have hG : Grew _ wx := (Grew.drew _).trans hR
          clear hgd
          simp [Deps, Dep, at_, Is] at hD
          obtain ⟨hd0, hd1⟩ := hD
          go_simp
          exact hK _ _ (Grew.refl _) rfl
        · have hG : Grew _ wx := (Grew.drew _).trans hR
          exfalso
          simp [Deps, Dep, at_, Is] at hD
          simp_all
        refine ⟨fun a_ wx hR hD => ⟨fun hgd K hK => ?_, fun hgd => ?_⟩, ?_⟩
        · have hG : Grew _ wx := (Grew.drew _).trans hR
          clear hgd
          simp [Deps, Dep, at_, Is] at hD
          obtain ⟨hd0, hd1⟩ := hD
          go_simp
          have hcn := put_nil_c n wx hn
          with_reducible refine hcn.mono ?_
          clear hcn
          rintro e wy ⟨v, rfl, hv, hg⟩
          exact hK _ _ hg hv
        · have hG : Grew _ wx := (Grew.drew _).trans hR
          exfalso
          simp [Deps, Dep, at_, Is] at hD
          simp_all
        refine ⟨fun a_ wx hR hD => ⟨fun hgd K hK => ?_, fun hgd => ?_⟩, ?_⟩
        · have hG : Grew _ wx := (Grew.drew _).trans hR
          clear hgd
          simp [Deps, Dep, at_, Is] at hD
          obtain ⟨⟨A', c', hv', hc', hC'⟩, hd1⟩ := hD
          have hcv := Kd.C_string (P := Try.prog) (c := c') Try.underlying22 Try.underlying5 Try.underlying9 hC'
          go_simp
          exact hK _ _ (Grew.refl _) rfl
        · have hG : Grew _ wx := (Grew.drew _).trans hR
          exfalso
          simp [Deps, Dep, at_, Is] at hD
          simp_all
        trivial
      · show EndHold _ _ _ _ _ _ _
        intro v43
        intro v46
        refine end_all (xs := [_, _, _, _, _, _, _, _, _, _, _, _, _, _, _, _]) ⟨rfl, rfl, rfl, rfl, rfl, rfl, rfl, rfl, rfl, rfl, rfl, rfl, rfl, rfl, rfl, rfl, trivial⟩ ?_
        rintro w3 hR1 ⟨⟨-, hrow1⟩, hrow2⟩
        refine ⟨?_⟩
        have hG_w3 : Grew _ w3 := (Grew.drew _).trans hR1
        clear hR1
        simp only [Act.put, List.setIfInBounds_toArray, List.set_cons_succ, List.set_cons_zero, dropN, putEach]
        clear hrow1 hrow2
        go_wp2_with fail
        refine (lives_c _).mono ?_
        rintro e w4 ⟨_, rfl, rfl, hg4⟩
        go_wp2
        go_ret
        exact ⟨_, rfl, rfl, hg1.trans (hg2.trans (hG_w3.trans hg4))⟩
    · obtain ⟨h1, h2⟩ := getL_err he
      rcases hq : getL l x with ⟨p, q, e0⟩
      rw [hq] at hget he h1 h2
      simp only at h1 h2 he
      subst h1 h2
      have HG := Lib.hid hget
      clear hget hq
      have e1 : (e0 == 0) = false := by simpa using he
      have e2 : (e0 != 0) = true := by simpa using he
      go_enter Try.func6, Try.ntmps6
      go_wp2_with fail
      refine (small_c A c l w hr hc true d1).mono ?_
      rintro e w1 ⟨_, rfl, rfl, hg1⟩
      go_wp2_with fail
      refine (HG.out w1 hg1).mono ?_
      rintro e w2 ⟨_, rfl, rfl, hg2⟩
      go_wp2_with fail
      refine (lives_c _).mono ?_
      rintro e w3 ⟨_, rfl, rfl, hg3⟩
      go_wp2
      go_ret
      exact ⟨_, rfl, rfl, hg1.trans (hg2.trans hg3)⟩
  · have d1 := decide_eq_false h
    go_enter Try.func6, Try.ntmps6
    go_wp2_with fail
    refine (small_c A c l w hr hc false d1).mono ?_
    rintro e w1 ⟨_, rfl, rfl, hg1⟩
    go_wp2_with fail
    refine (lives_c _).mono ?_
    rintro e w2 ⟨_, rfl, rfl, hg2⟩
    go_wp2
    go_ret
    exact ⟨_, rfl, rfl, hg1.trans hg2⟩
end Go.Proofs.Ytoolcamnmefpgaa.F
