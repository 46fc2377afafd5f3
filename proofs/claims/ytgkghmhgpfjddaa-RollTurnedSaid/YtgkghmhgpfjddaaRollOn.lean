/- The law RollOn: its call returns true, for all bytes and sizes: from window to window the sum that goes on is the sum of the window. -/
import Derived.Test.YtgkghmhgpfjddaaRollD
import Derived.Test.YtgkghmhgpfjddaaRollSums
namespace Go.Proofs.Ytgkghmhgpfjddaa.F
open Go Go.RowKit Go.Proofs.YtgkghmhgpfjddaaW.PrintWords Go.Proofs.YtgkghmhgpfjddaaW.PrintLast Go.Proofs.YtgkghmhgpfjddaaW.PrintMore Go.Proofs.YtgkghmhgpfjddaaM Go.Proofs.YtgkghmhgpfjddaaR
set_option linter.unusedSimpArgs false
set_option linter.unusedVariables false
theorem C_cell {A : Option Addr} {l : List Int} {w : World} (hr : Kd.C (Kd.int .u8) w A l.length l) (hn : 0 < l.length) : ∃ ad, A = some ad ∧ ∀ i : Nat, i < l.length → w.cell? (ad.add i) = some (.int .u8 (byteAt l i)) := by
  have h := Kd.reads_of_C (enc := Value.int .u8) (d := (0 : Int)) (h1 := fun _ => rfl) hr
  obtain ⟨ad, ha, _⟩ := h.at_ 0 (by omega) (by omega)
  refine ⟨ad, ha, fun i hi => ?_⟩
  obtain ⟨ad', ha', hc⟩ := h.at_ i (by omega) (by omega)
  rw [ha] at ha'
  obtain rfl := Option.some.inj ha'
  simpa [rdOf, byteAt] using hc
theorem C_window {ad : Addr} {l : List Int} {w : World} {c lo n : Nat} (hr : Kd.C (Kd.int .u8) w (some ad) l.length l) (hc : l.length ≤ c) (h : lo + n ≤ l.length) (hn : 1 ≤ n) (hlo : 1 ≤ lo) :
    Kd.C (Kd.int .u8) w (some ⟨ad.block, ad.off + lo, none⟩) ((l.drop lo).take n).length ((l.drop lo).take n) := by
  have h1 := Kd.C_mid (c := c) (lo := lo) (hi := lo + n) hr (by omega) h hc
  rw [if_neg (by omega)] at h1
  have e : (l.take (lo + n)).drop lo = (l.drop lo).take n := by rw [List.drop_take]; congr 1; omega
  rw [e] at h1
  have e2 : Option.map (fun x : Addr => x.add (lo * (Kd.int IntKind.u8).sz)) (some ad) = some ⟨ad.block, ad.off + lo, none⟩ := by
    simp only [Option.map_some]
    have : lo * (Kd.int IntKind.u8).sz = lo := by show lo * 1 = lo; omega
    rw [this]
    unfold Addr.add
    rw [if_neg (by omega)]
  rw [e2] at h1
  exact h1
theorem RollOn_c (w : World) (A : Option Addr) (c : Nat) (l : List Int) (a1 : Int) (hr : Kd.C (Kd.int .u8) w A l.length l) (hc : l.length ≤ c) (hm : l.length ≤ maxLen) (hy : l.length * 1 ≤ 140737488351232) (hw : ∀ x ∈ l, (Lit.int .u8 x).wf = true) (ha : (Lit.int .i64 a1).wf = true) :
    Calls Try.prog 6 #[.slice A l.length c, .int .i64 a1] w (Tells w (Is (.bool true))) := by
  have hb := Lib.hid (bytes_of hw)
  clear hw ha
  have quick : 1000 < l.length ∨ a1 < 1 ∨ (l.length : Int) < a1 → Calls Try.prog 6 #[.slice A l.length c, .int .i64 a1] w (Tells w (Is (.bool true))) := by
    intro h
    by_cases h1 : 1000 < l.length
    · have d1 : decide (1000 < l.length) = true := decide_eq_true h1
      go_enter Try.func6, Try.ntmps6
      go_wp2_with fail
      refine (lives_c _).mono ?_
      rintro e w' ⟨_, rfl, rfl, hg⟩
      go_wp2
      go_ret
      exact ⟨_, rfl, rfl, hg⟩
    have d1 : decide (1000 < l.length) = false := decide_eq_false h1
    by_cases h2 : a1 < 1
    · have d2 : decide (a1 < 1) = true := decide_eq_true h2
      go_enter Try.func6, Try.ntmps6
      go_wp2_with fail
      refine (lives_c _).mono ?_
      rintro e w' ⟨_, rfl, rfl, hg⟩
      go_wp2
      go_ret
      exact ⟨_, rfl, rfl, hg⟩
    have d2 : decide (a1 < 1) = false := decide_eq_false h2
    have h3 : (l.length : Int) < a1 := by omega
    have d3 : decide ((l.length : Int) < a1) = true := decide_eq_true h3
    go_enter Try.func6, Try.ntmps6
    go_wp2_with fail
    refine (lives_c _).mono ?_
    rintro e w' ⟨_, rfl, rfl, hg⟩
    go_wp2
    go_ret
    exact ⟨_, rfl, rfl, hg⟩
  by_cases h : 1000 < l.length ∨ a1 < 1 ∨ (l.length : Int) < a1
  · exact quick h
  clear quick
  obtain ⟨n, rfl⟩ := Int.eq_ofNat_of_zero_le (show 0 ≤ a1 by omega)
  obtain ⟨ad, rfl, hcell⟩ := C_cell hr (by omega)
  have Hc := Lib.hid hcell
  clear hcell
  have h1 : 1 ≤ n := by omega
  have h2 : n ≤ l.length := by omega
  have h3 : l.length ≤ 1000 := by omega
  clear h
  have d1 : decide (1000 < l.length) = false := decide_eq_false (by omega)
  have d2 : decide ((n : Int) < 1) = false := decide_eq_false (by omega)
  have d3 : decide (l.length < n) = false := decide_eq_false (by omega)
  go_enter Try.func6, Try.ntmps6
  go_wp2_with fail
  have ht : (l.take n).length = n := by simp; omega
  have hs := sum_c (some ad) c (l.take n) w (by have := Kd.C_take hr h2; exact this) (by omega) (by omega) (fun x hx => hb.out x (List.mem_of_mem_take hx))
  rw [ht] at hs
  clear ht
  refine hs.mono ?_
  clear hs
  rintro e w1 ⟨_, rfl, rfl, hg⟩
  go_wp2_with fail
  go_loopw [5, 6] (fun s i wr => ∃ j : Nat, n + j ≤ l.length ∧ i = .int .i64 ((n + j : Nat) : Int) ∧ s = .int .u32 (weak ((l.drop j).take n)) ∧ Grew w wr) (fun _ i _ => l.length - (intOf i).toNat)
  case atStart => exact ⟨0, by omega, rfl, by simp, hg⟩
  case round =>
    obtain ⟨j, hj, rfl, rfl, hgr⟩ := hrel
    by_cases hlt : n + j < l.length
    · go_wp2_with fail
      apply region_grew [Is _, Is _, Is _, Is _, Is _, Is _, Is _, Is _, Is _, Is _, Is _, Is _] [([(5, none)], none), ([(1, none)], none), ([(0, none)], none), ([(6, none)], none), ([(1, none)], none), ([(35, some 3), (36, some 4)], none), ([(34, some 2), (37, some 5)], none), ([(38, some 6)], none), ([(0, none)], none), ([(6, none)], none), ([(40, some 8), (41, some 9)], none), ([(42, some 10)], none)] [(32, 0), (33, 1), (34, 2), (35, 3), (36, 4), (37, 5), (38, 6), (39, 7), (40, 8), (41, 9), (42, 10), (43, 11)] rfl (by kernel_rfl) (by kernel_rfl) (show Stable Grew _ from ⟨Is.stable _, Is.stable _, Is.stable _, Is.stable _, Is.stable _, Is.stable _, Is.stable _, Is.stable _, Is.stable _, Is.stable _, Is.stable _, Is.stable _, trivial⟩)
      · show OpsHold _ _ _ _ _ _ _ _ _
        refine ⟨fun a wx hR hD K hK => ?_, ?_⟩
        · have hG : Grew _ wx := (Grew.drew _).trans hR
          simp [Deps, Dep, at_, Is] at hD
          go_simp
          exact hK _ _ (Grew.refl _) rfl
        refine ⟨fun a wx hR hD K hK => ?_, ?_⟩
        · have hG : Grew _ wx := (Grew.drew _).trans hR
          simp [Deps, Dep, at_, Is] at hD
          go_simp
          exact hK _ _ (Grew.refl _) rfl
        refine ⟨fun a wx hR hD K hK => ?_, ?_⟩
        · have hG : Grew _ wx := (Grew.drew _).trans hR
          simp [Deps, Dep, at_, Is] at hD
          go_simp
          exact hK _ _ (Grew.refl _) rfl
        refine ⟨fun a wx hR hD K hK => ?_, ?_⟩
        · have hG : Grew _ wx := (Grew.drew _).trans hR
          simp [Deps, Dep, at_, Is] at hD
          go_simp
          exact hK _ _ (Grew.refl _) rfl
        refine ⟨fun a wx hR hD K hK => ?_, ?_⟩
        · have hG : Grew _ wx := (Grew.drew _).trans hR
          simp [Deps, Dep, at_, Is] at hD
          go_simp
          exact hK _ _ (Grew.refl _) rfl
        refine ⟨fun a wx hR hD K hK => ?_, ?_⟩
        · have hG : Grew _ wx := (Grew.drew _).trans hR
          simp [Deps, Dep, at_, Is] at hD
          obtain ⟨hd0, hd1⟩ := hD
          have e : IntKind.i64.wrap ((n : Int) + (j : Int) - (n : Int)) = (j : Int) := by rw [show (n : Int) + (j : Int) - (n : Int) = (j : Int) from by omega]; exact IntWalk.i64_in _ (by omega)
          go_simp
          exact hK _ _ (Grew.refl _) rfl
        refine ⟨fun a wx hR hD K hK => ?_, ?_⟩
        · have hG : Grew _ wx := (Grew.drew _).trans hR
          simp [Deps, Dep, at_, Is] at hD
          obtain ⟨hd0, hd1⟩ := hD
          have e : (j : Int) < (l.length : Int) := by omega
          go_simp
          exact hK _ _ (Grew.refl _) rfl
        refine ⟨fun a wx hR hD K hK => ?_, ?_⟩
        · have hG : Grew _ wx := (Grew.drew _).trans hR
          simp [Deps, Dep, at_, Is] at hD
          have e := pw_cell_below (hgr.trans hG) (Hc.out j (by omega))
          go_simp
          exact hK _ _ (Grew.refl _) rfl
        refine ⟨fun a wx hR hD K hK => ?_, ?_⟩
        · have hG : Grew _ wx := (Grew.drew _).trans hR
          simp [Deps, Dep, at_, Is] at hD
          go_simp
          exact hK _ _ (Grew.refl _) rfl
        refine ⟨fun a wx hR hD K hK => ?_, ?_⟩
        · have hG : Grew _ wx := (Grew.drew _).trans hR
          simp [Deps, Dep, at_, Is] at hD
          go_simp
          exact hK _ _ (Grew.refl _) rfl
        refine ⟨fun a wx hR hD K hK => ?_, ?_⟩
        · have hG : Grew _ wx := (Grew.drew _).trans hR
          simp [Deps, Dep, at_, Is] at hD
          obtain ⟨hd0, hd1⟩ := hD
          have e : ((n : Int) + (j : Int)).toNat = n + j := by omega
          go_simp
          exact hK _ _ (Grew.refl _) rfl
        refine ⟨fun a wx hR hD K hK => ?_, ?_⟩
        · have hG : Grew _ wx := (Grew.drew _).trans hR
          simp [Deps, Dep, at_, Is] at hD
          have e := pw_cell_below (hgr.trans hG) (Hc.out (n + j) (by omega))
          go_simp
          exact hK _ _ (Grew.refl _) rfl
        trivial
      · show EndHold _ _ _ _ _ _ _
        refine end_all (xs := [_, _, _, _, _, _, _, _, _, _, _, _]) ⟨rfl, rfl, rfl, rfl, rfl, rfl, rfl, rfl, rfl, rfl, rfl, rfl, trivial⟩ ?_
        rintro w2 hR1 -
        refine ⟨?_⟩
        have hG_w2 : Grew _ w2 := (Grew.drew _).trans hR1
        clear hR1
        simp only [Act.put, List.setIfInBounds_toArray, List.set_cons_succ, List.set_cons_zero, dropN, putEach]
        go_wp2_with fail
        have b1 := hb.out _ (byteAt_mem (l := l) (i := j) (by omega))
        have b2 := hb.out _ (byteAt_mem (l := l) (i := n + j) (by omega))
        refine (next_c _ _ _ _ _ (weak_range _).1 (weak_range _).2 b1.1 b1.2 b2.1 b2.2).mono ?_
        clear b1 b2
        rintro e w3 ⟨_, rfl, rfl, hg3⟩
        rw [window_step l n j h1 hlt]
        go_wp2_with fail
        have ht : ((l.drop (j + 1)).take n).length = n := by simp; omega
        have hs := sum_c _ (c - (j + 1)) ((l.drop (j + 1)).take n) w3 (C_window (Kd.C_below hr (hgr.trans (hG_w2.trans hg3))) hc (by omega) h1 (by omega)) (by omega) (by omega) (fun x hx => hb.out x (List.mem_of_mem_drop (List.mem_of_mem_take hx)))
        rw [ht] at hs
        clear ht
        refine hs.mono ?_
        clear hs
        rintro e w4 ⟨_, rfl, rfl, hg4⟩
        go_wp2_with fail
        go_roundw
        case rel => exact ⟨j + 1, by omega, by go_num, rfl, hgr.trans (hG_w2.trans (hg3.trans hg4))⟩
        case measure => simp [intOf]; omega
    · go_wp2_with fail
      refine (lives_c _).mono ?_
      rintro e w2 ⟨_, rfl, rfl, hg2⟩
      go_wp2
      go_ret
      exact ⟨_, rfl, rfl, hgr.trans hg2⟩
end Go.Proofs.Ytgkghmhgpfjddaa.F
