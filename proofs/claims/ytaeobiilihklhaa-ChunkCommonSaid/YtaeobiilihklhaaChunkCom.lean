/- The function Common of the package chunk: how many texts two lists begin and end with that are the same. -/
import Derived.Test.YtaeobiilihklhaaChunkWhole
namespace Go.Proofs.Ytaeobiilihklhaa.F
open Go Go.RowKit Go.Proofs.YtaeobiilihklhaaW.PrintWords Go.Proofs.YtaeobiilihklhaaW.PrintLast Go.Proofs.YtaeobiilihklhaaW.PrintMore Go.Proofs.YtaeobiilihklhaaM Go.Proofs.YtaeobiilihklhaaR
attribute [local go_sem] max2_int min2_int max_two min_two
set_option linter.unusedSimpArgs false
set_option linter.unusedVariables false
set_option maxRecDepth 100000
theorem toList_inj {s t : ByteArray} (h : s.toList = t.toList) : s = t := by
  rw [ByteArray.toList_eq, ByteArray.toList_eq] at h
  exact ByteArray.ext (Array.ext' h)
def at0 (l : List ByteArray) (i : Nat) : ByteArray := l.getD i ByteArray.empty
/-- so many begin alike, so many end alike, and no more could be taken -/
structure CommonP (a b : List ByteArray) (x y : Nat) : Prop where
  x1 : x ≤ min a.length b.length
  xs : ∀ j, j < x → at0 a j = at0 b j
  xn : x < min a.length b.length → at0 a x ≠ at0 b x
  y1 : y ≤ min a.length b.length - x
  ys : ∀ j, j < y → at0 a (a.length - 1 - j) = at0 b (b.length - 1 - j)
  yn : y < min a.length b.length - x → at0 a (a.length - 1 - y) ≠ at0 b (b.length - 1 - y)
def CommonV (a b : List ByteArray) : World → Value → Prop := fun w v => ∃ x y : Nat, v = .tuple #[.int .i64 x, .int .i64 y] ∧ CommonP a b x y
theorem strs_at {w : World} {A : Option Addr} {l : List ByteArray} (h : Kd.C Kd.string w A l.length l) (i : Nat) (hi : i < l.length) : ∃ ad, A = some ad ∧ w.cell? (ad.add i) = some (.string (at0 l i)) := strs_cell h i hi
set_option maxHeartbeats 4000000 in
theorem common_c (A : Option Addr) (c : Nat) (a : List ByteArray) (B : Option Addr) (d : Nat) (b : List ByteArray) (w : World) (hr : Kd.C Kd.string w A a.length a) (hc : a.length ≤ c) (hr1 : Kd.C Kd.string w B b.length b) (hd : b.length ≤ d) (hl : a.length ≤ 1000) (hm : b.length ≤ 1000) :
    Calls Try.prog 22 #[.slice A a.length c, .slice B b.length d] w (Tells w (CommonV a b)) := by
  obtain ⟨n, hn⟩ : ∃ n, n = min a.length b.length := ⟨_, rfl⟩
  have en : (if (b.length : Int) < (a.length : Int) then (b.length : Int) else (a.length : Int)) = (n : Int) := by split <;> omega
  have en2 : (if b.length < a.length then (b.length : Int) else (a.length : Int)) = (n : Int) := by split <;> omega
  have hna : n ≤ a.length := by omega
  have hnb : n ≤ b.length := by omega
  have HN := Lib.hid hn
  have ea : IntKind.i64.wrap ((a.length : Int) - 1) = (a.length : Int) - 1 := IntWalk.i64_in _ (by omega)
  have eb : IntKind.i64.wrap ((b.length : Int) - 1) = (b.length : Int) - 1 := IntWalk.i64_in _ (by omega)
  have EA := Lib.hid ea
  have EB := Lib.hid eb
  clear hn ea eb
  go_enter Try.func22, Try.ntmps22
  go_wp2_with fail
  go_loopw [4] (fun iv wr => ∃ k : Nat, iv = .int .i64 (k : Int) ∧ k ≤ n ∧ (∀ j, j < k → at0 a j = at0 b j) ∧ Grew w wr) (fun iv _ => n - (intOf iv).toNat)
  case atStart => exact ⟨0, rfl, by omega, fun j hj => by omega, Grew.refl _⟩
  case round =>
    obtain ⟨k, rfl, hk, hks, hgr⟩ := hrel
    have HK := Lib.hid hks
    clear hks
    by_cases hlt : k < n
    · have d1 : decide (k < n) = true := decide_eq_true hlt
      obtain ⟨ad, rfl, hca⟩ := strs_at (Kd.C_below hr hgr) k (by omega)
      obtain ⟨bd, rfl, hcb⟩ := strs_at (Kd.C_below hr1 hgr) k (by omega)
      have HA := Lib.hid hca
      have HB := Lib.hid hcb
      have ha1 : k < a.length := by omega
      have hb1 : k < b.length := by omega
      clear hca hcb
      by_cases heq : at0 a k = at0 b k
      · rw [← heq] at HB
        have HEq := Lib.hid heq
        clear heq
        go_wp2_with fail
        apply region_grew [Is _, Is _, Is _, Is _, Is _, Is _, Is _, Is _, Is _, Is _, Is _, Is _] [([(4, none)], none), ([(6, none)], none), ([(12, some 0), (13, some 1)], none), ([(14, some 2)], none), ([(0, none), (15, some 3)], some (15, true)), ([(4, none), (15, some 3)], some (15, true)), ([(16, some 4), (17, some 5), (15, some 3)], some (15, true)), ([(18, some 6), (15, some 3)], some (15, true)), ([(1, none), (15, some 3)], some (15, true)), ([(4, none), (15, some 3)], some (15, true)), ([(20, some 8), (21, some 9), (15, some 3)], some (15, true)), ([(22, some 10), (15, some 3)], some (15, true))] [(12, 0), (13, 1), (14, 2), (15, 3), (16, 4), (17, 5), (18, 6), (19, 7), (20, 8), (21, 9), (22, 10), (23, 11)] rfl (by kernel_rfl) (by kernel_rfl) (show Stable Grew _ from ⟨Is.stable _, Is.stable _, Is.stable _, Is.stable _, Is.stable _, Is.stable _, Is.stable _, Is.stable _, Is.stable _, Is.stable _, Is.stable _, Is.stable _, trivial⟩)
        · show OpsHold _ _ _ _ _ _ _ _ _
          refine ⟨fun a_ wx hR hD K hK => ?_, ?_⟩
          · have hG : Grew wr wx := (Grew.drew _).trans hR
            simp [Deps, Dep, at_, Is] at hD
            go_simp
            exact hK _ _ (Grew.refl _) rfl
          refine ⟨fun a_ wx hR hD K hK => ?_, ?_⟩
          · have hG : Grew wr wx := (Grew.drew _).trans hR
            simp [Deps, Dep, at_, Is] at hD
            go_simp
            exact hK _ _ (Grew.refl _) rfl
          refine ⟨fun a_ wx hR hD K hK => ?_, ?_⟩
          · have hG : Grew wr wx := (Grew.drew _).trans hR
            simp [Deps, Dep, at_, Is] at hD
            obtain ⟨hd0, hd1⟩ := hD
            go_simp
            exact hK _ _ (Grew.refl _) rfl
          refine ⟨fun a_ wx hR hD K hK => ?_, ?_⟩
          · have hG : Grew wr wx := (Grew.drew _).trans hR
            simp [Deps, Dep, at_, Is] at hD
            go_simp
            exact hK _ _ (Grew.refl _) rfl
          refine ⟨fun a_ wx hR hD => ⟨fun hgd K hK => ?_, fun hgd => ?_⟩, ?_⟩
          · have hG : Grew wr wx := (Grew.drew _).trans hR
            clear hgd
            simp [Deps, Dep, at_, Is] at hD
            obtain ⟨hd0, hd1⟩ := hD
            go_simp
            exact hK _ _ (Grew.refl _) rfl
          · have hG : Grew wr wx := (Grew.drew _).trans hR
            exfalso
            simp [Deps, Dep, at_, Is] at hD
            simp_all
          refine ⟨fun a_ wx hR hD => ⟨fun hgd K hK => ?_, fun hgd => ?_⟩, ?_⟩
          · have hG : Grew wr wx := (Grew.drew _).trans hR
            clear hgd
            simp [Deps, Dep, at_, Is] at hD
            obtain ⟨hd0, hd1⟩ := hD
            go_simp
            exact hK _ _ (Grew.refl _) rfl
          · have hG : Grew wr wx := (Grew.drew _).trans hR
            exfalso
            simp [Deps, Dep, at_, Is] at hD
            simp_all
          refine ⟨fun a_ wx hR hD => ⟨fun hgd K hK => ?_, fun hgd => ?_⟩, ?_⟩
          · have hG : Grew wr wx := (Grew.drew _).trans hR
            clear hgd
            simp [Deps, Dep, at_, Is] at hD
            obtain ⟨hd0, hd1, hd2⟩ := hD
            go_simp
            exact hK _ _ (Grew.refl _) rfl
          · have hG : Grew wr wx := (Grew.drew _).trans hR
            exfalso
            simp [Deps, Dep, at_, Is] at hD
            simp_all
          refine ⟨fun a_ wx hR hD => ⟨fun hgd K hK => ?_, fun hgd => ?_⟩, ?_⟩
          · have hG : Grew wr wx := (Grew.drew _).trans hR
            clear hgd
            simp [Deps, Dep, at_, Is] at hD
            obtain ⟨hd0, hd1⟩ := hD
            have e_ := pw_cell_below hG HA.out
            go_simp
            exact hK _ _ (Grew.refl _) rfl
          · have hG : Grew wr wx := (Grew.drew _).trans hR
            exfalso
            simp [Deps, Dep, at_, Is] at hD
            simp_all
          refine ⟨fun a_ wx hR hD => ⟨fun hgd K hK => ?_, fun hgd => ?_⟩, ?_⟩
          · have hG : Grew wr wx := (Grew.drew _).trans hR
            clear hgd
            simp [Deps, Dep, at_, Is] at hD
            obtain ⟨hd0, hd1⟩ := hD
            go_simp
            exact hK _ _ (Grew.refl _) rfl
          · have hG : Grew wr wx := (Grew.drew _).trans hR
            exfalso
            simp [Deps, Dep, at_, Is] at hD
            simp_all
          refine ⟨fun a_ wx hR hD => ⟨fun hgd K hK => ?_, fun hgd => ?_⟩, ?_⟩
          · have hG : Grew wr wx := (Grew.drew _).trans hR
            clear hgd
            simp [Deps, Dep, at_, Is] at hD
            obtain ⟨hd0, hd1⟩ := hD
            go_simp
            exact hK _ _ (Grew.refl _) rfl
          · have hG : Grew wr wx := (Grew.drew _).trans hR
            exfalso
            simp [Deps, Dep, at_, Is] at hD
            simp_all
          refine ⟨fun a_ wx hR hD => ⟨fun hgd K hK => ?_, fun hgd => ?_⟩, ?_⟩
          · have hG : Grew wr wx := (Grew.drew _).trans hR
            clear hgd
            simp [Deps, Dep, at_, Is] at hD
            obtain ⟨hd0, hd1, hd2⟩ := hD
            go_simp
            exact hK _ _ (Grew.refl _) rfl
          · have hG : Grew wr wx := (Grew.drew _).trans hR
            exfalso
            simp [Deps, Dep, at_, Is] at hD
            simp_all
          refine ⟨fun a_ wx hR hD => ⟨fun hgd K hK => ?_, fun hgd => ?_⟩, ?_⟩
          · have hG : Grew wr wx := (Grew.drew _).trans hR
            clear hgd
            simp [Deps, Dep, at_, Is] at hD
            obtain ⟨hd0, hd1⟩ := hD
            have e_ := pw_cell_below hG HB.out
            go_simp
            exact hK _ _ (Grew.refl _) rfl
          · have hG : Grew wr wx := (Grew.drew _).trans hR
            exfalso
            simp [Deps, Dep, at_, Is] at hD
            simp_all
          trivial
        · show EndHold _ _ _ _ _ _ _
          refine end_all (xs := [_, _, _, _, _, _, _, _, _, _, _, _]) ⟨rfl, rfl, rfl, rfl, rfl, rfl, rfl, rfl, rfl, rfl, rfl, rfl, trivial⟩ ?_
          rintro w2 hR1 -
          refine ⟨?_⟩
          have hG_w2 : Grew wr w2 := (Grew.drew _).trans hR1
          clear hR1
          simp only [Act.put, List.setIfInBounds_toArray, List.set_cons_succ, List.set_cons_zero, dropN, putEach]
          go_wp2_with fail
          go_roundw
          case rel => exact ⟨k + 1, by go_num, by omega, fun j hj => by
            rcases Nat.lt_or_ge j k with h | h
            · exact HK.out j h
            · obtain rfl : j = k := by omega
              exact HEq.out, hgr.trans hG_w2⟩
          case measure => simp [intOf]; omega
      · have HNe := Lib.hid heq
        have dne : decide ((at0 a k).toList = (at0 b k).toList) = false := decide_eq_false fun h => heq (toList_inj h)
        have dne2 : ((at0 a k).toList == (at0 b k).toList) = false := by simpa using dne
        have hxn : k < n → at0 a k ≠ at0 b k := fun _ => HNe.out
        clear heq
        go_wp2_with fail
        apply region_grew [Is _, Is _, Is _, Is _, Is _, Is _, Is _, Is _, Is _, Is _, Is _, Is _] [([(4, none)], none), ([(6, none)], none), ([(12, some 0), (13, some 1)], none), ([(14, some 2)], none), ([(0, none), (15, some 3)], some (15, true)), ([(4, none), (15, some 3)], some (15, true)), ([(16, some 4), (17, some 5), (15, some 3)], some (15, true)), ([(18, some 6), (15, some 3)], some (15, true)), ([(1, none), (15, some 3)], some (15, true)), ([(4, none), (15, some 3)], some (15, true)), ([(20, some 8), (21, some 9), (15, some 3)], some (15, true)), ([(22, some 10), (15, some 3)], some (15, true))] [(12, 0), (13, 1), (14, 2), (15, 3), (16, 4), (17, 5), (18, 6), (19, 7), (20, 8), (21, 9), (22, 10), (23, 11)] rfl (by kernel_rfl) (by kernel_rfl) (show Stable Grew _ from ⟨Is.stable _, Is.stable _, Is.stable _, Is.stable _, Is.stable _, Is.stable _, Is.stable _, Is.stable _, Is.stable _, Is.stable _, Is.stable _, Is.stable _, trivial⟩)
        · show OpsHold _ _ _ _ _ _ _ _ _
          refine ⟨fun a_ wx hR hD K hK => ?_, ?_⟩
          · have hG : Grew wr wx := (Grew.drew _).trans hR
            simp [Deps, Dep, at_, Is] at hD
            go_simp
            exact hK _ _ (Grew.refl _) rfl
          refine ⟨fun a_ wx hR hD K hK => ?_, ?_⟩
          · have hG : Grew wr wx := (Grew.drew _).trans hR
            simp [Deps, Dep, at_, Is] at hD
            go_simp
            exact hK _ _ (Grew.refl _) rfl
          refine ⟨fun a_ wx hR hD K hK => ?_, ?_⟩
          · have hG : Grew wr wx := (Grew.drew _).trans hR
            simp [Deps, Dep, at_, Is] at hD
            obtain ⟨hd0, hd1⟩ := hD
            go_simp
            exact hK _ _ (Grew.refl _) rfl
          refine ⟨fun a_ wx hR hD K hK => ?_, ?_⟩
          · have hG : Grew wr wx := (Grew.drew _).trans hR
            simp [Deps, Dep, at_, Is] at hD
            go_simp
            exact hK _ _ (Grew.refl _) rfl
          refine ⟨fun a_ wx hR hD => ⟨fun hgd K hK => ?_, fun hgd => ?_⟩, ?_⟩
          · have hG : Grew wr wx := (Grew.drew _).trans hR
            clear hgd
            simp [Deps, Dep, at_, Is] at hD
            obtain ⟨hd0, hd1⟩ := hD
            go_simp
            exact hK _ _ (Grew.refl _) rfl
          · have hG : Grew wr wx := (Grew.drew _).trans hR
            exfalso
            simp [Deps, Dep, at_, Is] at hD
            simp_all
          refine ⟨fun a_ wx hR hD => ⟨fun hgd K hK => ?_, fun hgd => ?_⟩, ?_⟩
          · have hG : Grew wr wx := (Grew.drew _).trans hR
            clear hgd
            simp [Deps, Dep, at_, Is] at hD
            obtain ⟨hd0, hd1⟩ := hD
            go_simp
            exact hK _ _ (Grew.refl _) rfl
          · have hG : Grew wr wx := (Grew.drew _).trans hR
            exfalso
            simp [Deps, Dep, at_, Is] at hD
            simp_all
          refine ⟨fun a_ wx hR hD => ⟨fun hgd K hK => ?_, fun hgd => ?_⟩, ?_⟩
          · have hG : Grew wr wx := (Grew.drew _).trans hR
            clear hgd
            simp [Deps, Dep, at_, Is] at hD
            obtain ⟨hd0, hd1, hd2⟩ := hD
            go_simp
            exact hK _ _ (Grew.refl _) rfl
          · have hG : Grew wr wx := (Grew.drew _).trans hR
            exfalso
            simp [Deps, Dep, at_, Is] at hD
            simp_all
          refine ⟨fun a_ wx hR hD => ⟨fun hgd K hK => ?_, fun hgd => ?_⟩, ?_⟩
          · have hG : Grew wr wx := (Grew.drew _).trans hR
            clear hgd
            simp [Deps, Dep, at_, Is] at hD
            obtain ⟨hd0, hd1⟩ := hD
            have e_ := pw_cell_below hG HA.out
            go_simp
            exact hK _ _ (Grew.refl _) rfl
          · have hG : Grew wr wx := (Grew.drew _).trans hR
            exfalso
            simp [Deps, Dep, at_, Is] at hD
            simp_all
          refine ⟨fun a_ wx hR hD => ⟨fun hgd K hK => ?_, fun hgd => ?_⟩, ?_⟩
          · have hG : Grew wr wx := (Grew.drew _).trans hR
            clear hgd
            simp [Deps, Dep, at_, Is] at hD
            obtain ⟨hd0, hd1⟩ := hD
            go_simp
            exact hK _ _ (Grew.refl _) rfl
          · have hG : Grew wr wx := (Grew.drew _).trans hR
            exfalso
            simp [Deps, Dep, at_, Is] at hD
            simp_all
          refine ⟨fun a_ wx hR hD => ⟨fun hgd K hK => ?_, fun hgd => ?_⟩, ?_⟩
          · have hG : Grew wr wx := (Grew.drew _).trans hR
            clear hgd
            simp [Deps, Dep, at_, Is] at hD
            obtain ⟨hd0, hd1⟩ := hD
            go_simp
            exact hK _ _ (Grew.refl _) rfl
          · have hG : Grew wr wx := (Grew.drew _).trans hR
            exfalso
            simp [Deps, Dep, at_, Is] at hD
            simp_all
          refine ⟨fun a_ wx hR hD => ⟨fun hgd K hK => ?_, fun hgd => ?_⟩, ?_⟩
          · have hG : Grew wr wx := (Grew.drew _).trans hR
            clear hgd
            simp [Deps, Dep, at_, Is] at hD
            obtain ⟨hd0, hd1, hd2⟩ := hD
            go_simp
            exact hK _ _ (Grew.refl _) rfl
          · have hG : Grew wr wx := (Grew.drew _).trans hR
            exfalso
            simp [Deps, Dep, at_, Is] at hD
            simp_all
          refine ⟨fun a_ wx hR hD => ⟨fun hgd K hK => ?_, fun hgd => ?_⟩, ?_⟩
          · have hG : Grew wr wx := (Grew.drew _).trans hR
            clear hgd
            simp [Deps, Dep, at_, Is] at hD
            obtain ⟨hd0, hd1⟩ := hD
            have e_ := pw_cell_below hG HB.out
            go_simp
            exact hK _ _ (Grew.refl _) rfl
          · have hG : Grew wr wx := (Grew.drew _).trans hR
            exfalso
            simp [Deps, Dep, at_, Is] at hD
            simp_all
          trivial
        · show EndHold _ _ _ _ _ _ _
          refine end_all (xs := [_, _, _, _, _, _, _, _, _, _, _, _]) ⟨rfl, rfl, rfl, rfl, rfl, rfl, rfl, rfl, rfl, rfl, rfl, rfl, trivial⟩ ?_
          rintro w2 hR1 -
          refine ⟨?_⟩
          have hG_w2 : Grew wr w2 := (Grew.drew _).trans hR1
          clear hR1
          simp only [Act.put, List.setIfInBounds_toArray, List.set_cons_succ, List.set_cons_zero, dropN, putEach]
          go_wp2_with fail
          have HXn := Lib.hid hxn
          clear hxn
          have hg2 : Grew w w2 := hgr.trans hG_w2
          clear dne dne2
          obtain ⟨wo, rfl⟩ : ∃ wo : World, wo = wr := ⟨_, rfl⟩
          go_loopw [5] (fun iv wq => ∃ y : Nat, iv = .int .i64 (y : Int) ∧ y ≤ n - k ∧ (∀ j, j < y → at0 a (a.length - 1 - j) = at0 b (b.length - 1 - j)) ∧ Grew w wq) (fun iv _ => n - k - (intOf iv).toNat)
          case atStart => exact ⟨0, rfl, by omega, fun j hj => by omega, hg2⟩
          case round =>
            obtain ⟨y, rfl, hy, hys, hgy⟩ := hrel
            have HY := Lib.hid hys
            clear hys
            by_cases hlt2 : y < n - k
            · obtain ⟨ad', hA', hca⟩ := strs_at (Kd.C_below hr hgy) (a.length - 1 - y) (by omega)
              obtain ⟨bd', hB', hcb⟩ := strs_at (Kd.C_below hr1 hgy) (b.length - 1 - y) (by omega)
              obtain rfl := Option.some.inj hA'
              obtain rfl := Option.some.inj hB'
              clear hA' hB'
              have HA2 := Lib.hid hca
              have HB2 := Lib.hid hcb
              have s1 : IntKind.i64.wrap ((a.length : Int) - 1) = (a.length : Int) - 1 := EA.out
              have s2 : IntKind.i64.wrap ((b.length : Int) - 1) = (b.length : Int) - 1 := EB.out
              have s3 : IntKind.i64.wrap ((a.length : Int) - 1 - (y : Int)) = ((a.length - 1 - y : Nat) : Int) := (IntWalk.i64_in _ (by omega)).trans (by omega)
              have s4 : IntKind.i64.wrap ((b.length : Int) - 1 - (y : Int)) = ((b.length - 1 - y : Nat) : Int) := (IntWalk.i64_in _ (by omega)).trans (by omega)
              have s5 : IntKind.i64.wrap ((n : Int) - (k : Int)) = (n : Int) - (k : Int) := IntWalk.i64_in _ (by omega)
              have g1 : a.length - 1 - y < a.length := by omega
              have g2 : b.length - 1 - y < b.length := by omega
              have d2 : decide ((y : Int) < (n : Int) - (k : Int)) = true := decide_eq_true (by omega)
              obtain ⟨p, hp⟩ : ∃ p, p = a.length - 1 - y := ⟨_, rfl⟩
              obtain ⟨q, hq⟩ : ∃ q, q = b.length - 1 - y := ⟨_, rfl⟩
              rw [← hp] at s3 g1 HA2
              rw [← hq] at s4 g2 HB2
              have HP := Lib.hid hp
              have HQ := Lib.hid hq
              clear hp hq hca hcb
              by_cases heq : at0 a p = at0 b q
              · rw [← heq] at HB2
                have HEq2 := Lib.hid heq
                clear heq
                go_wp2_with fail
                apply region_grew [Is _, Is _, Is _, Is _, Is _, Is _, Is _, Is _, Is _, Is _, Is _, Is _, Is _, Is _, Is _, Is _, Is _, Is _, Is _, Is _, Is _, Is _] [([(5, none)], none), ([(6, none)], none), ([(4, none)], none), ([(29, some 1), (30, some 2)], none), ([(28, some 0), (31, some 3)], none), ([(32, some 4)], none), ([(0, none), (33, some 5)], some (33, true)), ([(0, none), (33, some 5)], some (33, true)), ([(35, some 7), (33, some 5)], some (33, true)), ([(36, some 8), (33, some 5)], some (33, true)), ([(5, none), (33, some 5)], some (33, true)), ([(37, some 9), (38, some 10), (33, some 5)], some (33, true)), ([(34, some 6), (39, some 11), (33, some 5)], some (33, true)), ([(40, some 12), (33, some 5)], some (33, true)), ([(1, none), (33, some 5)], some (33, true)), ([(1, none), (33, some 5)], some (33, true)), ([(43, some 15), (33, some 5)], some (33, true)), ([(44, some 16), (33, some 5)], some (33, true)), ([(5, none), (33, some 5)], some (33, true)), ([(45, some 17), (46, some 18), (33, some 5)], some (33, true)), ([(42, some 14), (47, some 19), (33, some 5)], some (33, true)), ([(48, some 20), (33, some 5)], some (33, true))] [(28, 0), (29, 1), (30, 2), (31, 3), (32, 4), (33, 5), (34, 6), (35, 7), (36, 8), (37, 9), (38, 10), (39, 11), (40, 12), (41, 13), (42, 14), (43, 15), (44, 16), (45, 17), (46, 18), (47, 19), (48, 20), (49, 21)] rfl (by kernel_rfl) (by kernel_rfl) (show Stable Grew _ from ⟨Is.stable _, Is.stable _, Is.stable _, Is.stable _, Is.stable _, Is.stable _, Is.stable _, Is.stable _, Is.stable _, Is.stable _, Is.stable _, Is.stable _, Is.stable _, Is.stable _, Is.stable _, Is.stable _, Is.stable _, Is.stable _, Is.stable _, Is.stable _, Is.stable _, Is.stable _, trivial⟩)
                · show OpsHold _ _ _ _ _ _ _ _ _
                  refine ⟨fun a_ wx hR hD K hK => ?_, ?_⟩
                  · have hG : Grew wr wx := (Grew.drew _).trans hR
                    simp [Deps, Dep, at_, Is] at hD
                    go_simp
                    exact hK _ _ (Grew.refl _) rfl
                  refine ⟨fun a_ wx hR hD K hK => ?_, ?_⟩
                  · have hG : Grew wr wx := (Grew.drew _).trans hR
                    simp [Deps, Dep, at_, Is] at hD
                    go_simp
                    exact hK _ _ (Grew.refl _) rfl
                  refine ⟨fun a_ wx hR hD K hK => ?_, ?_⟩
                  · have hG : Grew wr wx := (Grew.drew _).trans hR
                    simp [Deps, Dep, at_, Is] at hD
                    go_simp
                    exact hK _ _ (Grew.refl _) rfl
                  refine ⟨fun a_ wx hR hD K hK => ?_, ?_⟩
                  · have hG : Grew wr wx := (Grew.drew _).trans hR
                    simp [Deps, Dep, at_, Is] at hD
                    obtain ⟨hd0, hd1⟩ := hD
                    go_simp
                    exact hK _ _ (Grew.refl _) rfl
                  refine ⟨fun a_ wx hR hD K hK => ?_, ?_⟩
                  · have hG : Grew wr wx := (Grew.drew _).trans hR
                    simp [Deps, Dep, at_, Is] at hD
                    obtain ⟨hd0, hd1⟩ := hD
                    go_simp
                    exact hK _ _ (Grew.refl _) rfl
                  refine ⟨fun a_ wx hR hD K hK => ?_, ?_⟩
                  · have hG : Grew wr wx := (Grew.drew _).trans hR
                    simp [Deps, Dep, at_, Is] at hD
                    go_simp
                    exact hK _ _ (Grew.refl _) rfl
                  refine ⟨fun a_ wx hR hD => ⟨fun hgd K hK => ?_, fun hgd => ?_⟩, ?_⟩
                  · have hG : Grew wr wx := (Grew.drew _).trans hR
                    clear hgd
                    simp [Deps, Dep, at_, Is] at hD
                    obtain ⟨hd0, hd1⟩ := hD
                    go_simp
                    exact hK _ _ (Grew.refl _) rfl
                  · have hG : Grew wr wx := (Grew.drew _).trans hR
                    exfalso
                    simp [Deps, Dep, at_, Is] at hD
                    simp_all
                  refine ⟨fun a_ wx hR hD => ⟨fun hgd K hK => ?_, fun hgd => ?_⟩, ?_⟩
                  · have hG : Grew wr wx := (Grew.drew _).trans hR
                    clear hgd
                    simp [Deps, Dep, at_, Is] at hD
                    obtain ⟨hd0, hd1⟩ := hD
                    go_simp
                    exact hK _ _ (Grew.refl _) rfl
                  · have hG : Grew wr wx := (Grew.drew _).trans hR
                    exfalso
                    simp [Deps, Dep, at_, Is] at hD
                    simp_all
                  refine ⟨fun a_ wx hR hD => ⟨fun hgd K hK => ?_, fun hgd => ?_⟩, ?_⟩
                  · have hG : Grew wr wx := (Grew.drew _).trans hR
                    clear hgd
                    simp [Deps, Dep, at_, Is] at hD
                    obtain ⟨hd0, hd1⟩ := hD
                    go_simp
                    exact hK _ _ (Grew.refl _) rfl
                  · have hG : Grew wr wx := (Grew.drew _).trans hR
                    exfalso
                    simp [Deps, Dep, at_, Is] at hD
                    simp_all
                  refine ⟨fun a_ wx hR hD => ⟨fun hgd K hK => ?_, fun hgd => ?_⟩, ?_⟩
                  · have hG : Grew wr wx := (Grew.drew _).trans hR
                    clear hgd
                    simp [Deps, Dep, at_, Is] at hD
                    obtain ⟨hd0, hd1⟩ := hD
                    go_simp
                    exact hK _ _ (Grew.refl _) rfl
                  · have hG : Grew wr wx := (Grew.drew _).trans hR
                    exfalso
                    simp [Deps, Dep, at_, Is] at hD
                    simp_all
                  refine ⟨fun a_ wx hR hD => ⟨fun hgd K hK => ?_, fun hgd => ?_⟩, ?_⟩
                  · have hG : Grew wr wx := (Grew.drew _).trans hR
                    clear hgd
                    simp [Deps, Dep, at_, Is] at hD
                    obtain ⟨hd0, hd1⟩ := hD
                    go_simp
                    exact hK _ _ (Grew.refl _) rfl
                  · have hG : Grew wr wx := (Grew.drew _).trans hR
                    exfalso
                    simp [Deps, Dep, at_, Is] at hD
                    simp_all
                  refine ⟨fun a_ wx hR hD => ⟨fun hgd K hK => ?_, fun hgd => ?_⟩, ?_⟩
                  · have hG : Grew wr wx := (Grew.drew _).trans hR
                    clear hgd
                    simp [Deps, Dep, at_, Is] at hD
                    obtain ⟨hd0, hd1, hd2⟩ := hD
                    go_simp
                    exact hK _ _ (Grew.refl _) rfl
                  · have hG : Grew wr wx := (Grew.drew _).trans hR
                    exfalso
                    simp [Deps, Dep, at_, Is] at hD
                    simp_all
                  refine ⟨fun a_ wx hR hD => ⟨fun hgd K hK => ?_, fun hgd => ?_⟩, ?_⟩
                  · have hG : Grew wr wx := (Grew.drew _).trans hR
                    clear hgd
                    simp [Deps, Dep, at_, Is] at hD
                    obtain ⟨hd0, hd1, hd2⟩ := hD
                    go_simp
                    exact hK _ _ (Grew.refl _) rfl
                  · have hG : Grew wr wx := (Grew.drew _).trans hR
                    exfalso
                    simp [Deps, Dep, at_, Is] at hD
                    simp_all
                  refine ⟨fun a_ wx hR hD => ⟨fun hgd K hK => ?_, fun hgd => ?_⟩, ?_⟩
                  · have hG : Grew wr wx := (Grew.drew _).trans hR
                    clear hgd
                    simp [Deps, Dep, at_, Is] at hD
                    obtain ⟨hd0, hd1⟩ := hD
                    have e_ := pw_cell_below hG HA2.out
                    go_simp
                    exact hK _ _ (Grew.refl _) rfl
                  · have hG : Grew wr wx := (Grew.drew _).trans hR
                    exfalso
                    simp [Deps, Dep, at_, Is] at hD
                    simp_all
                  refine ⟨fun a_ wx hR hD => ⟨fun hgd K hK => ?_, fun hgd => ?_⟩, ?_⟩
                  · have hG : Grew wr wx := (Grew.drew _).trans hR
                    clear hgd
                    simp [Deps, Dep, at_, Is] at hD
                    obtain ⟨hd0, hd1⟩ := hD
                    go_simp
                    exact hK _ _ (Grew.refl _) rfl
                  · have hG : Grew wr wx := (Grew.drew _).trans hR
                    exfalso
                    simp [Deps, Dep, at_, Is] at hD
                    simp_all
                  refine ⟨fun a_ wx hR hD => ⟨fun hgd K hK => ?_, fun hgd => ?_⟩, ?_⟩
                  · have hG : Grew wr wx := (Grew.drew _).trans hR
                    clear hgd
                    simp [Deps, Dep, at_, Is] at hD
                    obtain ⟨hd0, hd1⟩ := hD
                    go_simp
                    exact hK _ _ (Grew.refl _) rfl
                  · have hG : Grew wr wx := (Grew.drew _).trans hR
                    exfalso
                    simp [Deps, Dep, at_, Is] at hD
                    simp_all
                  refine ⟨fun a_ wx hR hD => ⟨fun hgd K hK => ?_, fun hgd => ?_⟩, ?_⟩
                  · have hG : Grew wr wx := (Grew.drew _).trans hR
                    clear hgd
                    simp [Deps, Dep, at_, Is] at hD
                    obtain ⟨hd0, hd1⟩ := hD
                    go_simp
                    exact hK _ _ (Grew.refl _) rfl
                  · have hG : Grew wr wx := (Grew.drew _).trans hR
                    exfalso
                    simp [Deps, Dep, at_, Is] at hD
                    simp_all
                  refine ⟨fun a_ wx hR hD => ⟨fun hgd K hK => ?_, fun hgd => ?_⟩, ?_⟩
                  · have hG : Grew wr wx := (Grew.drew _).trans hR
                    clear hgd
                    simp [Deps, Dep, at_, Is] at hD
                    obtain ⟨hd0, hd1⟩ := hD
                    go_simp
                    exact hK _ _ (Grew.refl _) rfl
                  · have hG : Grew wr wx := (Grew.drew _).trans hR
                    exfalso
                    simp [Deps, Dep, at_, Is] at hD
                    simp_all
                  refine ⟨fun a_ wx hR hD => ⟨fun hgd K hK => ?_, fun hgd => ?_⟩, ?_⟩
                  · have hG : Grew wr wx := (Grew.drew _).trans hR
                    clear hgd
                    simp [Deps, Dep, at_, Is] at hD
                    obtain ⟨hd0, hd1⟩ := hD
                    go_simp
                    exact hK _ _ (Grew.refl _) rfl
                  · have hG : Grew wr wx := (Grew.drew _).trans hR
                    exfalso
                    simp [Deps, Dep, at_, Is] at hD
                    simp_all
                  refine ⟨fun a_ wx hR hD => ⟨fun hgd K hK => ?_, fun hgd => ?_⟩, ?_⟩
                  · have hG : Grew wr wx := (Grew.drew _).trans hR
                    clear hgd
                    simp [Deps, Dep, at_, Is] at hD
                    obtain ⟨hd0, hd1, hd2⟩ := hD
                    go_simp
                    exact hK _ _ (Grew.refl _) rfl
                  · have hG : Grew wr wx := (Grew.drew _).trans hR
                    exfalso
                    simp [Deps, Dep, at_, Is] at hD
                    simp_all
                  refine ⟨fun a_ wx hR hD => ⟨fun hgd K hK => ?_, fun hgd => ?_⟩, ?_⟩
                  · have hG : Grew wr wx := (Grew.drew _).trans hR
                    clear hgd
                    simp [Deps, Dep, at_, Is] at hD
                    obtain ⟨hd0, hd1, hd2⟩ := hD
                    go_simp
                    exact hK _ _ (Grew.refl _) rfl
                  · have hG : Grew wr wx := (Grew.drew _).trans hR
                    exfalso
                    simp [Deps, Dep, at_, Is] at hD
                    simp_all
                  refine ⟨fun a_ wx hR hD => ⟨fun hgd K hK => ?_, fun hgd => ?_⟩, ?_⟩
                  · have hG : Grew wr wx := (Grew.drew _).trans hR
                    clear hgd
                    simp [Deps, Dep, at_, Is] at hD
                    obtain ⟨hd0, hd1⟩ := hD
                    have e_ := pw_cell_below hG HB2.out
                    go_simp
                    exact hK _ _ (Grew.refl _) rfl
                  · have hG : Grew wr wx := (Grew.drew _).trans hR
                    exfalso
                    simp [Deps, Dep, at_, Is] at hD
                    simp_all
                  trivial
                · show EndHold _ _ _ _ _ _ _
                  refine end_all (xs := [_, _, _, _, _, _, _, _, _, _, _, _, _, _, _, _, _, _, _, _, _, _]) ⟨rfl, rfl, rfl, rfl, rfl, rfl, rfl, rfl, rfl, rfl, rfl, rfl, rfl, rfl, rfl, rfl, rfl, rfl, rfl, rfl, rfl, rfl, trivial⟩ ?_
                  rintro w3 hR1 -
                  refine ⟨?_⟩
                  have hG_w3 : Grew wr w3 := (Grew.drew _).trans hR1
                  clear hR1
                  simp only [Act.put, List.setIfInBounds_toArray, List.set_cons_succ, List.set_cons_zero, dropN, putEach]
                  go_wp2_with fail
                  go_roundw
                  case rel => exact ⟨y + 1, by go_num, by omega, fun j hj => by
                    rcases Nat.lt_or_ge j y with h | h
                    · exact HY.out j h
                    · obtain rfl : j = y := by omega
                      rw [← HP.out, ← HQ.out]; exact HEq2.out, hgy.trans hG_w3⟩
                  case measure => simp [intOf]; omega
              · have HNe2 := Lib.hid heq
                have dne : decide ((at0 a p).toList = (at0 b q).toList) = false := decide_eq_false fun h => heq (toList_inj h)
                have dne2 : ((at0 a p).toList == (at0 b q).toList) = false := by simpa using dne
                clear heq
                go_wp2_with fail
                apply region_grew [Is _, Is _, Is _, Is _, Is _, Is _, Is _, Is _, Is _, Is _, Is _, Is _, Is _, Is _, Is _, Is _, Is _, Is _, Is _, Is _, Is _, Is _] [([(5, none)], none), ([(6, none)], none), ([(4, none)], none), ([(29, some 1), (30, some 2)], none), ([(28, some 0), (31, some 3)], none), ([(32, some 4)], none), ([(0, none), (33, some 5)], some (33, true)), ([(0, none), (33, some 5)], some (33, true)), ([(35, some 7), (33, some 5)], some (33, true)), ([(36, some 8), (33, some 5)], some (33, true)), ([(5, none), (33, some 5)], some (33, true)), ([(37, some 9), (38, some 10), (33, some 5)], some (33, true)), ([(34, some 6), (39, some 11), (33, some 5)], some (33, true)), ([(40, some 12), (33, some 5)], some (33, true)), ([(1, none), (33, some 5)], some (33, true)), ([(1, none), (33, some 5)], some (33, true)), ([(43, some 15), (33, some 5)], some (33, true)), ([(44, some 16), (33, some 5)], some (33, true)), ([(5, none), (33, some 5)], some (33, true)), ([(45, some 17), (46, some 18), (33, some 5)], some (33, true)), ([(42, some 14), (47, some 19), (33, some 5)], some (33, true)), ([(48, some 20), (33, some 5)], some (33, true))] [(28, 0), (29, 1), (30, 2), (31, 3), (32, 4), (33, 5), (34, 6), (35, 7), (36, 8), (37, 9), (38, 10), (39, 11), (40, 12), (41, 13), (42, 14), (43, 15), (44, 16), (45, 17), (46, 18), (47, 19), (48, 20), (49, 21)] rfl (by kernel_rfl) (by kernel_rfl) (show Stable Grew _ from ⟨Is.stable _, Is.stable _, Is.stable _, Is.stable _, Is.stable _, Is.stable _, Is.stable _, Is.stable _, Is.stable _, Is.stable _, Is.stable _, Is.stable _, Is.stable _, Is.stable _, Is.stable _, Is.stable _, Is.stable _, Is.stable _, Is.stable _, Is.stable _, Is.stable _, Is.stable _, trivial⟩)
                · show OpsHold _ _ _ _ _ _ _ _ _
                  refine ⟨fun a_ wx hR hD K hK => ?_, ?_⟩
                  · have hG : Grew wr wx := (Grew.drew _).trans hR
                    simp [Deps, Dep, at_, Is] at hD
                    go_simp
                    exact hK _ _ (Grew.refl _) rfl
                  refine ⟨fun a_ wx hR hD K hK => ?_, ?_⟩
                  · have hG : Grew wr wx := (Grew.drew _).trans hR
                    simp [Deps, Dep, at_, Is] at hD
                    go_simp
                    exact hK _ _ (Grew.refl _) rfl
                  refine ⟨fun a_ wx hR hD K hK => ?_, ?_⟩
                  · have hG : Grew wr wx := (Grew.drew _).trans hR
                    simp [Deps, Dep, at_, Is] at hD
                    go_simp
                    exact hK _ _ (Grew.refl _) rfl
                  refine ⟨fun a_ wx hR hD K hK => ?_, ?_⟩
                  · have hG : Grew wr wx := (Grew.drew _).trans hR
                    simp [Deps, Dep, at_, Is] at hD
                    obtain ⟨hd0, hd1⟩ := hD
                    go_simp
                    exact hK _ _ (Grew.refl _) rfl
                  refine ⟨fun a_ wx hR hD K hK => ?_, ?_⟩
                  · have hG : Grew wr wx := (Grew.drew _).trans hR
                    simp [Deps, Dep, at_, Is] at hD
                    obtain ⟨hd0, hd1⟩ := hD
                    go_simp
                    exact hK _ _ (Grew.refl _) rfl
                  refine ⟨fun a_ wx hR hD K hK => ?_, ?_⟩
                  · have hG : Grew wr wx := (Grew.drew _).trans hR
                    simp [Deps, Dep, at_, Is] at hD
                    go_simp
                    exact hK _ _ (Grew.refl _) rfl
                  refine ⟨fun a_ wx hR hD => ⟨fun hgd K hK => ?_, fun hgd => ?_⟩, ?_⟩
                  · have hG : Grew wr wx := (Grew.drew _).trans hR
                    clear hgd
                    simp [Deps, Dep, at_, Is] at hD
                    obtain ⟨hd0, hd1⟩ := hD
                    go_simp
                    exact hK _ _ (Grew.refl _) rfl
                  · have hG : Grew wr wx := (Grew.drew _).trans hR
                    exfalso
                    simp [Deps, Dep, at_, Is] at hD
                    simp_all
                  refine ⟨fun a_ wx hR hD => ⟨fun hgd K hK => ?_, fun hgd => ?_⟩, ?_⟩
                  · have hG : Grew wr wx := (Grew.drew _).trans hR
                    clear hgd
                    simp [Deps, Dep, at_, Is] at hD
                    obtain ⟨hd0, hd1⟩ := hD
                    go_simp
                    exact hK _ _ (Grew.refl _) rfl
                  · have hG : Grew wr wx := (Grew.drew _).trans hR
                    exfalso
                    simp [Deps, Dep, at_, Is] at hD
                    simp_all
                  refine ⟨fun a_ wx hR hD => ⟨fun hgd K hK => ?_, fun hgd => ?_⟩, ?_⟩
                  · have hG : Grew wr wx := (Grew.drew _).trans hR
                    clear hgd
                    simp [Deps, Dep, at_, Is] at hD
                    obtain ⟨hd0, hd1⟩ := hD
                    go_simp
                    exact hK _ _ (Grew.refl _) rfl
                  · have hG : Grew wr wx := (Grew.drew _).trans hR
                    exfalso
                    simp [Deps, Dep, at_, Is] at hD
                    simp_all
                  refine ⟨fun a_ wx hR hD => ⟨fun hgd K hK => ?_, fun hgd => ?_⟩, ?_⟩
                  · have hG : Grew wr wx := (Grew.drew _).trans hR
                    clear hgd
                    simp [Deps, Dep, at_, Is] at hD
                    obtain ⟨hd0, hd1⟩ := hD
                    go_simp
                    exact hK _ _ (Grew.refl _) rfl
                  · have hG : Grew wr wx := (Grew.drew _).trans hR
                    exfalso
                    simp [Deps, Dep, at_, Is] at hD
                    simp_all
                  refine ⟨fun a_ wx hR hD => ⟨fun hgd K hK => ?_, fun hgd => ?_⟩, ?_⟩
                  · have hG : Grew wr wx := (Grew.drew _).trans hR
                    clear hgd
                    simp [Deps, Dep, at_, Is] at hD
                    obtain ⟨hd0, hd1⟩ := hD
                    go_simp
                    exact hK _ _ (Grew.refl _) rfl
                  · have hG : Grew wr wx := (Grew.drew _).trans hR
                    exfalso
                    simp [Deps, Dep, at_, Is] at hD
                    simp_all
                  refine ⟨fun a_ wx hR hD => ⟨fun hgd K hK => ?_, fun hgd => ?_⟩, ?_⟩
                  · have hG : Grew wr wx := (Grew.drew _).trans hR
                    clear hgd
                    simp [Deps, Dep, at_, Is] at hD
                    obtain ⟨hd0, hd1, hd2⟩ := hD
                    go_simp
                    exact hK _ _ (Grew.refl _) rfl
                  · have hG : Grew wr wx := (Grew.drew _).trans hR
                    exfalso
                    simp [Deps, Dep, at_, Is] at hD
                    simp_all
                  refine ⟨fun a_ wx hR hD => ⟨fun hgd K hK => ?_, fun hgd => ?_⟩, ?_⟩
                  · have hG : Grew wr wx := (Grew.drew _).trans hR
                    clear hgd
                    simp [Deps, Dep, at_, Is] at hD
                    obtain ⟨hd0, hd1, hd2⟩ := hD
                    go_simp
                    exact hK _ _ (Grew.refl _) rfl
                  · have hG : Grew wr wx := (Grew.drew _).trans hR
                    exfalso
                    simp [Deps, Dep, at_, Is] at hD
                    simp_all
                  refine ⟨fun a_ wx hR hD => ⟨fun hgd K hK => ?_, fun hgd => ?_⟩, ?_⟩
                  · have hG : Grew wr wx := (Grew.drew _).trans hR
                    clear hgd
                    simp [Deps, Dep, at_, Is] at hD
                    obtain ⟨hd0, hd1⟩ := hD
                    have e_ := pw_cell_below hG HA2.out
                    go_simp
                    exact hK _ _ (Grew.refl _) rfl
                  · have hG : Grew wr wx := (Grew.drew _).trans hR
                    exfalso
                    simp [Deps, Dep, at_, Is] at hD
                    simp_all
                  refine ⟨fun a_ wx hR hD => ⟨fun hgd K hK => ?_, fun hgd => ?_⟩, ?_⟩
                  · have hG : Grew wr wx := (Grew.drew _).trans hR
                    clear hgd
                    simp [Deps, Dep, at_, Is] at hD
                    obtain ⟨hd0, hd1⟩ := hD
                    go_simp
                    exact hK _ _ (Grew.refl _) rfl
                  · have hG : Grew wr wx := (Grew.drew _).trans hR
                    exfalso
                    simp [Deps, Dep, at_, Is] at hD
                    simp_all
                  refine ⟨fun a_ wx hR hD => ⟨fun hgd K hK => ?_, fun hgd => ?_⟩, ?_⟩
                  · have hG : Grew wr wx := (Grew.drew _).trans hR
                    clear hgd
                    simp [Deps, Dep, at_, Is] at hD
                    obtain ⟨hd0, hd1⟩ := hD
                    go_simp
                    exact hK _ _ (Grew.refl _) rfl
                  · have hG : Grew wr wx := (Grew.drew _).trans hR
                    exfalso
                    simp [Deps, Dep, at_, Is] at hD
                    simp_all
                  refine ⟨fun a_ wx hR hD => ⟨fun hgd K hK => ?_, fun hgd => ?_⟩, ?_⟩
                  · have hG : Grew wr wx := (Grew.drew _).trans hR
                    clear hgd
                    simp [Deps, Dep, at_, Is] at hD
                    obtain ⟨hd0, hd1⟩ := hD
                    go_simp
                    exact hK _ _ (Grew.refl _) rfl
                  · have hG : Grew wr wx := (Grew.drew _).trans hR
                    exfalso
                    simp [Deps, Dep, at_, Is] at hD
                    simp_all
                  refine ⟨fun a_ wx hR hD => ⟨fun hgd K hK => ?_, fun hgd => ?_⟩, ?_⟩
                  · have hG : Grew wr wx := (Grew.drew _).trans hR
                    clear hgd
                    simp [Deps, Dep, at_, Is] at hD
                    obtain ⟨hd0, hd1⟩ := hD
                    go_simp
                    exact hK _ _ (Grew.refl _) rfl
                  · have hG : Grew wr wx := (Grew.drew _).trans hR
                    exfalso
                    simp [Deps, Dep, at_, Is] at hD
                    simp_all
                  refine ⟨fun a_ wx hR hD => ⟨fun hgd K hK => ?_, fun hgd => ?_⟩, ?_⟩
                  · have hG : Grew wr wx := (Grew.drew _).trans hR
                    clear hgd
                    simp [Deps, Dep, at_, Is] at hD
                    obtain ⟨hd0, hd1⟩ := hD
                    go_simp
                    exact hK _ _ (Grew.refl _) rfl
                  · have hG : Grew wr wx := (Grew.drew _).trans hR
                    exfalso
                    simp [Deps, Dep, at_, Is] at hD
                    simp_all
                  refine ⟨fun a_ wx hR hD => ⟨fun hgd K hK => ?_, fun hgd => ?_⟩, ?_⟩
                  · have hG : Grew wr wx := (Grew.drew _).trans hR
                    clear hgd
                    simp [Deps, Dep, at_, Is] at hD
                    obtain ⟨hd0, hd1, hd2⟩ := hD
                    go_simp
                    exact hK _ _ (Grew.refl _) rfl
                  · have hG : Grew wr wx := (Grew.drew _).trans hR
                    exfalso
                    simp [Deps, Dep, at_, Is] at hD
                    simp_all
                  refine ⟨fun a_ wx hR hD => ⟨fun hgd K hK => ?_, fun hgd => ?_⟩, ?_⟩
                  · have hG : Grew wr wx := (Grew.drew _).trans hR
                    clear hgd
                    simp [Deps, Dep, at_, Is] at hD
                    obtain ⟨hd0, hd1, hd2⟩ := hD
                    go_simp
                    exact hK _ _ (Grew.refl _) rfl
                  · have hG : Grew wr wx := (Grew.drew _).trans hR
                    exfalso
                    simp [Deps, Dep, at_, Is] at hD
                    simp_all
                  refine ⟨fun a_ wx hR hD => ⟨fun hgd K hK => ?_, fun hgd => ?_⟩, ?_⟩
                  · have hG : Grew wr wx := (Grew.drew _).trans hR
                    clear hgd
                    simp [Deps, Dep, at_, Is] at hD
                    obtain ⟨hd0, hd1⟩ := hD
                    have e_ := pw_cell_below hG HB2.out
                    go_simp
                    exact hK _ _ (Grew.refl _) rfl
                  · have hG : Grew wr wx := (Grew.drew _).trans hR
                    exfalso
                    simp [Deps, Dep, at_, Is] at hD
                    simp_all
                  trivial
                · show EndHold _ _ _ _ _ _ _
                  refine end_all (xs := [_, _, _, _, _, _, _, _, _, _, _, _, _, _, _, _, _, _, _, _, _, _]) ⟨rfl, rfl, rfl, rfl, rfl, rfl, rfl, rfl, rfl, rfl, rfl, rfl, rfl, rfl, rfl, rfl, rfl, rfl, rfl, rfl, rfl, rfl, trivial⟩ ?_
                  rintro w3 hR1 -
                  refine ⟨?_⟩
                  have hG_w3 : Grew wr w3 := (Grew.drew _).trans hR1
                  clear hR1
                  simp only [Act.put, List.setIfInBounds_toArray, List.set_cons_succ, List.set_cons_zero, dropN, putEach]
                  go_wp2_with fail
                  go_ret2
                  exact ⟨_, rfl, ⟨k, y, rfl, by rw [← HN.out]; omega, HK.out, by rw [← HN.out]; exact HXn.out, by rw [← HN.out]; omega, HY.out, fun _ => by rw [← HP.out, ← HQ.out]; exact HNe2.out⟩, hgy.trans hG_w3⟩
            · have s5 : IntKind.i64.wrap ((n : Int) - (k : Int)) = (n : Int) - (k : Int) := IntWalk.i64_in _ (by omega)
              have d2 : decide ((y : Int) < (n : Int) - (k : Int)) = false := decide_eq_false (by omega)
              go_wp2_with fail
              apply region_grew [Is _, Is _, Is _, Is _, Is _, Is _, Is undef, Is undef, Is undef, Is undef, Is undef, Is undef, Is undef, Is undef, Is undef, Is undef, Is undef, Is undef, Is undef, Is undef, Is undef, Is undef] [([(5, none)], none), ([(6, none)], none), ([(4, none)], none), ([(29, some 1), (30, some 2)], none), ([(28, some 0), (31, some 3)], none), ([(32, some 4)], none), ([(0, none), (33, some 5)], some (33, true)), ([(0, none), (33, some 5)], some (33, true)), ([(35, some 7), (33, some 5)], some (33, true)), ([(36, some 8), (33, some 5)], some (33, true)), ([(5, none), (33, some 5)], some (33, true)), ([(37, some 9), (38, some 10), (33, some 5)], some (33, true)), ([(34, some 6), (39, some 11), (33, some 5)], some (33, true)), ([(40, some 12), (33, some 5)], some (33, true)), ([(1, none), (33, some 5)], some (33, true)), ([(1, none), (33, some 5)], some (33, true)), ([(43, some 15), (33, some 5)], some (33, true)), ([(44, some 16), (33, some 5)], some (33, true)), ([(5, none), (33, some 5)], some (33, true)), ([(45, some 17), (46, some 18), (33, some 5)], some (33, true)), ([(42, some 14), (47, some 19), (33, some 5)], some (33, true)), ([(48, some 20), (33, some 5)], some (33, true))] [(28, 0), (29, 1), (30, 2), (31, 3), (32, 4), (33, 5), (34, 6), (35, 7), (36, 8), (37, 9), (38, 10), (39, 11), (40, 12), (41, 13), (42, 14), (43, 15), (44, 16), (45, 17), (46, 18), (47, 19), (48, 20), (49, 21)] rfl (by kernel_rfl) (by kernel_rfl) (show Stable Grew _ from ⟨Is.stable _, Is.stable _, Is.stable _, Is.stable _, Is.stable _, Is.stable _, Is.stable _, Is.stable _, Is.stable _, Is.stable _, Is.stable _, Is.stable _, Is.stable _, Is.stable _, Is.stable _, Is.stable _, Is.stable _, Is.stable _, Is.stable _, Is.stable _, Is.stable _, Is.stable _, trivial⟩)
              · show OpsHold _ _ _ _ _ _ _ _ _
                refine ⟨fun a_ wx hR hD K hK => ?_, ?_⟩
                · have hG : Grew wr wx := (Grew.drew _).trans hR
                  simp [Deps, Dep, at_, Is] at hD
                  go_simp
                  exact hK _ _ (Grew.refl _) rfl
                refine ⟨fun a_ wx hR hD K hK => ?_, ?_⟩
                · have hG : Grew wr wx := (Grew.drew _).trans hR
                  simp [Deps, Dep, at_, Is] at hD
                  go_simp
                  exact hK _ _ (Grew.refl _) rfl
                refine ⟨fun a_ wx hR hD K hK => ?_, ?_⟩
                · have hG : Grew wr wx := (Grew.drew _).trans hR
                  simp [Deps, Dep, at_, Is] at hD
                  go_simp
                  exact hK _ _ (Grew.refl _) rfl
                refine ⟨fun a_ wx hR hD K hK => ?_, ?_⟩
                · have hG : Grew wr wx := (Grew.drew _).trans hR
                  simp [Deps, Dep, at_, Is] at hD
                  obtain ⟨hd0, hd1⟩ := hD
                  go_simp
                  exact hK _ _ (Grew.refl _) rfl
                refine ⟨fun a_ wx hR hD K hK => ?_, ?_⟩
                · have hG : Grew wr wx := (Grew.drew _).trans hR
                  simp [Deps, Dep, at_, Is] at hD
                  obtain ⟨hd0, hd1⟩ := hD
                  go_simp
                  exact hK _ _ (Grew.refl _) rfl
                refine ⟨fun a_ wx hR hD K hK => ?_, ?_⟩
                · have hG : Grew wr wx := (Grew.drew _).trans hR
                  simp [Deps, Dep, at_, Is] at hD
                  go_simp
                  exact hK _ _ (Grew.refl _) rfl
                refine ⟨fun a_ wx hR hD => ⟨fun hgd K hK => ?_, fun hgd => ?_⟩, ?_⟩
                · have hG : Grew wr wx := (Grew.drew _).trans hR
                  exfalso
                  simp [Deps, Dep, at_, Is] at hD
                  simp_all
                · exact rfl
                refine ⟨fun a_ wx hR hD => ⟨fun hgd K hK => ?_, fun hgd => ?_⟩, ?_⟩
                · have hG : Grew wr wx := (Grew.drew _).trans hR
                  exfalso
                  simp [Deps, Dep, at_, Is] at hD
                  simp_all
                · exact rfl
                refine ⟨fun a_ wx hR hD => ⟨fun hgd K hK => ?_, fun hgd => ?_⟩, ?_⟩
                · have hG : Grew wr wx := (Grew.drew _).trans hR
                  exfalso
                  simp [Deps, Dep, at_, Is] at hD
                  simp_all
                · exact rfl
                refine ⟨fun a_ wx hR hD => ⟨fun hgd K hK => ?_, fun hgd => ?_⟩, ?_⟩
                · have hG : Grew wr wx := (Grew.drew _).trans hR
                  exfalso
                  simp [Deps, Dep, at_, Is] at hD
                  simp_all
                · exact rfl
                refine ⟨fun a_ wx hR hD => ⟨fun hgd K hK => ?_, fun hgd => ?_⟩, ?_⟩
                · have hG : Grew wr wx := (Grew.drew _).trans hR
                  exfalso
                  simp [Deps, Dep, at_, Is] at hD
                  simp_all
                · exact rfl
                refine ⟨fun a_ wx hR hD => ⟨fun hgd K hK => ?_, fun hgd => ?_⟩, ?_⟩
                · have hG : Grew wr wx := (Grew.drew _).trans hR
                  exfalso
                  simp [Deps, Dep, at_, Is] at hD
                  simp_all
                · exact rfl
                refine ⟨fun a_ wx hR hD => ⟨fun hgd K hK => ?_, fun hgd => ?_⟩, ?_⟩
                · have hG : Grew wr wx := (Grew.drew _).trans hR
                  exfalso
                  simp [Deps, Dep, at_, Is] at hD
                  simp_all
                · exact rfl
                refine ⟨fun a_ wx hR hD => ⟨fun hgd K hK => ?_, fun hgd => ?_⟩, ?_⟩
                · have hG : Grew wr wx := (Grew.drew _).trans hR
                  exfalso
                  simp [Deps, Dep, at_, Is] at hD
                  simp_all
                · exact rfl
                refine ⟨fun a_ wx hR hD => ⟨fun hgd K hK => ?_, fun hgd => ?_⟩, ?_⟩
                · have hG : Grew wr wx := (Grew.drew _).trans hR
                  exfalso
                  simp [Deps, Dep, at_, Is] at hD
                  simp_all
                · exact rfl
                refine ⟨fun a_ wx hR hD => ⟨fun hgd K hK => ?_, fun hgd => ?_⟩, ?_⟩
                · have hG : Grew wr wx := (Grew.drew _).trans hR
                  exfalso
                  simp [Deps, Dep, at_, Is] at hD
                  simp_all
                · exact rfl
                refine ⟨fun a_ wx hR hD => ⟨fun hgd K hK => ?_, fun hgd => ?_⟩, ?_⟩
                · have hG : Grew wr wx := (Grew.drew _).trans hR
                  exfalso
                  simp [Deps, Dep, at_, Is] at hD
                  simp_all
                · exact rfl
                refine ⟨fun a_ wx hR hD => ⟨fun hgd K hK => ?_, fun hgd => ?_⟩, ?_⟩
                · have hG : Grew wr wx := (Grew.drew _).trans hR
                  exfalso
                  simp [Deps, Dep, at_, Is] at hD
                  simp_all
                · exact rfl
                refine ⟨fun a_ wx hR hD => ⟨fun hgd K hK => ?_, fun hgd => ?_⟩, ?_⟩
                · have hG : Grew wr wx := (Grew.drew _).trans hR
                  exfalso
                  simp [Deps, Dep, at_, Is] at hD
                  simp_all
                · exact rfl
                refine ⟨fun a_ wx hR hD => ⟨fun hgd K hK => ?_, fun hgd => ?_⟩, ?_⟩
                · have hG : Grew wr wx := (Grew.drew _).trans hR
                  exfalso
                  simp [Deps, Dep, at_, Is] at hD
                  simp_all
                · exact rfl
                refine ⟨fun a_ wx hR hD => ⟨fun hgd K hK => ?_, fun hgd => ?_⟩, ?_⟩
                · have hG : Grew wr wx := (Grew.drew _).trans hR
                  exfalso
                  simp [Deps, Dep, at_, Is] at hD
                  simp_all
                · exact rfl
                refine ⟨fun a_ wx hR hD => ⟨fun hgd K hK => ?_, fun hgd => ?_⟩, ?_⟩
                · have hG : Grew wr wx := (Grew.drew _).trans hR
                  exfalso
                  simp [Deps, Dep, at_, Is] at hD
                  simp_all
                · exact rfl
                trivial
              · show EndHold _ _ _ _ _ _ _
                refine end_all (xs := [_, _, _, _, _, _, _, _, _, _, _, _, _, _, _, _, _, _, _, _, _, _]) ⟨rfl, rfl, rfl, rfl, rfl, rfl, rfl, rfl, rfl, rfl, rfl, rfl, rfl, rfl, rfl, rfl, rfl, rfl, rfl, rfl, rfl, rfl, trivial⟩ ?_
                rintro w3 hR1 -
                refine ⟨?_⟩
                have hG_w3 : Grew wr w3 := (Grew.drew _).trans hR1
                clear hR1
                simp only [Act.put, List.setIfInBounds_toArray, List.set_cons_succ, List.set_cons_zero, dropN, putEach]
                go_wp2_with fail
                go_ret2
                exact ⟨_, rfl, ⟨k, y, rfl, by rw [← HN.out]; omega, HK.out, by rw [← HN.out]; exact HXn.out, by rw [← HN.out]; omega, HY.out, fun h => by rw [← HN.out] at h; omega⟩, hgy.trans hG_w3⟩
    · obtain rfl : k = n := by omega
      have d1 : decide (k < k) = false := decide_eq_false hlt
      have hxn : k < k → at0 a k ≠ at0 b k := fun h => absurd h hlt
      go_wp2_with fail
      apply region_grew [Is _, Is _, Is _, Is _, Is undef, Is undef, Is undef, Is undef, Is undef, Is undef, Is undef, Is undef] [([(4, none)], none), ([(6, none)], none), ([(12, some 0), (13, some 1)], none), ([(14, some 2)], none), ([(0, none), (15, some 3)], some (15, true)), ([(4, none), (15, some 3)], some (15, true)), ([(16, some 4), (17, some 5), (15, some 3)], some (15, true)), ([(18, some 6), (15, some 3)], some (15, true)), ([(1, none), (15, some 3)], some (15, true)), ([(4, none), (15, some 3)], some (15, true)), ([(20, some 8), (21, some 9), (15, some 3)], some (15, true)), ([(22, some 10), (15, some 3)], some (15, true))] [(12, 0), (13, 1), (14, 2), (15, 3), (16, 4), (17, 5), (18, 6), (19, 7), (20, 8), (21, 9), (22, 10), (23, 11)] rfl (by kernel_rfl) (by kernel_rfl) (show Stable Grew _ from ⟨Is.stable _, Is.stable _, Is.stable _, Is.stable _, Is.stable _, Is.stable _, Is.stable _, Is.stable _, Is.stable _, Is.stable _, Is.stable _, Is.stable _, trivial⟩)
      · show OpsHold _ _ _ _ _ _ _ _ _
        refine ⟨fun a_ wx hR hD K hK => ?_, ?_⟩
        · have hG : Grew wr wx := (Grew.drew _).trans hR
          simp [Deps, Dep, at_, Is] at hD
          go_simp
          exact hK _ _ (Grew.refl _) rfl
        refine ⟨fun a_ wx hR hD K hK => ?_, ?_⟩
        · have hG : Grew wr wx := (Grew.drew _).trans hR
          simp [Deps, Dep, at_, Is] at hD
          go_simp
          exact hK _ _ (Grew.refl _) rfl
        refine ⟨fun a_ wx hR hD K hK => ?_, ?_⟩
        · have hG : Grew wr wx := (Grew.drew _).trans hR
          simp [Deps, Dep, at_, Is] at hD
          obtain ⟨hd0, hd1⟩ := hD
          go_simp
          exact hK _ _ (Grew.refl _) rfl
        refine ⟨fun a_ wx hR hD K hK => ?_, ?_⟩
        · have hG : Grew wr wx := (Grew.drew _).trans hR
          simp [Deps, Dep, at_, Is] at hD
          go_simp
          exact hK _ _ (Grew.refl _) rfl
        refine ⟨fun a_ wx hR hD => ⟨fun hgd K hK => ?_, fun hgd => ?_⟩, ?_⟩
        · have hG : Grew wr wx := (Grew.drew _).trans hR
          exfalso
          simp [Deps, Dep, at_, Is] at hD
          simp_all
        · exact rfl
        refine ⟨fun a_ wx hR hD => ⟨fun hgd K hK => ?_, fun hgd => ?_⟩, ?_⟩
        · have hG : Grew wr wx := (Grew.drew _).trans hR
          exfalso
          simp [Deps, Dep, at_, Is] at hD
          simp_all
        · exact rfl
        refine ⟨fun a_ wx hR hD => ⟨fun hgd K hK => ?_, fun hgd => ?_⟩, ?_⟩
        · have hG : Grew wr wx := (Grew.drew _).trans hR
          exfalso
          simp [Deps, Dep, at_, Is] at hD
          simp_all
        · exact rfl
        refine ⟨fun a_ wx hR hD => ⟨fun hgd K hK => ?_, fun hgd => ?_⟩, ?_⟩
        · have hG : Grew wr wx := (Grew.drew _).trans hR
          exfalso
          simp [Deps, Dep, at_, Is] at hD
          simp_all
        · exact rfl
        refine ⟨fun a_ wx hR hD => ⟨fun hgd K hK => ?_, fun hgd => ?_⟩, ?_⟩
        · have hG : Grew wr wx := (Grew.drew _).trans hR
          exfalso
          simp [Deps, Dep, at_, Is] at hD
          simp_all
        · exact rfl
        refine ⟨fun a_ wx hR hD => ⟨fun hgd K hK => ?_, fun hgd => ?_⟩, ?_⟩
        · have hG : Grew wr wx := (Grew.drew _).trans hR
          exfalso
          simp [Deps, Dep, at_, Is] at hD
          simp_all
        · exact rfl
        refine ⟨fun a_ wx hR hD => ⟨fun hgd K hK => ?_, fun hgd => ?_⟩, ?_⟩
        · have hG : Grew wr wx := (Grew.drew _).trans hR
          exfalso
          simp [Deps, Dep, at_, Is] at hD
          simp_all
        · exact rfl
        refine ⟨fun a_ wx hR hD => ⟨fun hgd K hK => ?_, fun hgd => ?_⟩, ?_⟩
        · have hG : Grew wr wx := (Grew.drew _).trans hR
          exfalso
          simp [Deps, Dep, at_, Is] at hD
          simp_all
        · exact rfl
        trivial
      · show EndHold _ _ _ _ _ _ _
        refine end_all (xs := [_, _, _, _, _, _, _, _, _, _, _, _]) ⟨rfl, rfl, rfl, rfl, rfl, rfl, rfl, rfl, rfl, rfl, rfl, rfl, trivial⟩ ?_
        rintro w2 hR1 -
        refine ⟨?_⟩
        have hG_w2 : Grew wr w2 := (Grew.drew _).trans hR1
        clear hR1
        simp only [Act.put, List.setIfInBounds_toArray, List.set_cons_succ, List.set_cons_zero, dropN, putEach]
        go_wp2_with fail
        have HXn := Lib.hid hxn
        clear hxn
        have hg2 : Grew w w2 := hgr.trans hG_w2
        obtain ⟨wo, rfl⟩ : ∃ wo : World, wo = wr := ⟨_, rfl⟩
        go_loopw [5] (fun iv wq => ∃ y : Nat, iv = .int .i64 (y : Int) ∧ y ≤ k - k ∧ (∀ j, j < y → at0 a (a.length - 1 - j) = at0 b (b.length - 1 - j)) ∧ Grew w wq) (fun iv _ => k - k - (intOf iv).toNat)
        case atStart => exact ⟨0, rfl, by omega, fun j hj => by omega, hg2⟩
        case round =>
          obtain ⟨y, rfl, hy, hys, hgy⟩ := hrel
          have HY := Lib.hid hys
          clear hys
          by_cases hlt2 : y < k - k
          · exfalso; omega
          · have s5 : IntKind.i64.wrap ((k : Int) - (k : Int)) = (k : Int) - (k : Int) := IntWalk.i64_in _ (by omega)
            have d2 : decide ((y : Int) < (k : Int) - (k : Int)) = false := decide_eq_false (by omega)
            go_wp2_with fail
            apply region_grew [Is _, Is _, Is _, Is _, Is _, Is _, Is undef, Is undef, Is undef, Is undef, Is undef, Is undef, Is undef, Is undef, Is undef, Is undef, Is undef, Is undef, Is undef, Is undef, Is undef, Is undef] [([(5, none)], none), ([(6, none)], none), ([(4, none)], none), ([(29, some 1), (30, some 2)], none), ([(28, some 0), (31, some 3)], none), ([(32, some 4)], none), ([(0, none), (33, some 5)], some (33, true)), ([(0, none), (33, some 5)], some (33, true)), ([(35, some 7), (33, some 5)], some (33, true)), ([(36, some 8), (33, some 5)], some (33, true)), ([(5, none), (33, some 5)], some (33, true)), ([(37, some 9), (38, some 10), (33, some 5)], some (33, true)), ([(34, some 6), (39, some 11), (33, some 5)], some (33, true)), ([(40, some 12), (33, some 5)], some (33, true)), ([(1, none), (33, some 5)], some (33, true)), ([(1, none), (33, some 5)], some (33, true)), ([(43, some 15), (33, some 5)], some (33, true)), ([(44, some 16), (33, some 5)], some (33, true)), ([(5, none), (33, some 5)], some (33, true)), ([(45, some 17), (46, some 18), (33, some 5)], some (33, true)), ([(42, some 14), (47, some 19), (33, some 5)], some (33, true)), ([(48, some 20), (33, some 5)], some (33, true))] [(28, 0), (29, 1), (30, 2), (31, 3), (32, 4), (33, 5), (34, 6), (35, 7), (36, 8), (37, 9), (38, 10), (39, 11), (40, 12), (41, 13), (42, 14), (43, 15), (44, 16), (45, 17), (46, 18), (47, 19), (48, 20), (49, 21)] rfl (by kernel_rfl) (by kernel_rfl) (show Stable Grew _ from ⟨Is.stable _, Is.stable _, Is.stable _, Is.stable _, Is.stable _, Is.stable _, Is.stable _, Is.stable _, Is.stable _, Is.stable _, Is.stable _, Is.stable _, Is.stable _, Is.stable _, Is.stable _, Is.stable _, Is.stable _, Is.stable _, Is.stable _, Is.stable _, Is.stable _, Is.stable _, trivial⟩)
            · show OpsHold _ _ _ _ _ _ _ _ _
              refine ⟨fun a_ wx hR hD K hK => ?_, ?_⟩
              · have hG : Grew wr wx := (Grew.drew _).trans hR
                simp [Deps, Dep, at_, Is] at hD
                go_simp
                exact hK _ _ (Grew.refl _) rfl
              refine ⟨fun a_ wx hR hD K hK => ?_, ?_⟩
              · have hG : Grew wr wx := (Grew.drew _).trans hR
                simp [Deps, Dep, at_, Is] at hD
                go_simp
                exact hK _ _ (Grew.refl _) rfl
              refine ⟨fun a_ wx hR hD K hK => ?_, ?_⟩
              · have hG : Grew wr wx := (Grew.drew _).trans hR
                simp [Deps, Dep, at_, Is] at hD
                go_simp
                exact hK _ _ (Grew.refl _) rfl
              refine ⟨fun a_ wx hR hD K hK => ?_, ?_⟩
              · have hG : Grew wr wx := (Grew.drew _).trans hR
                simp [Deps, Dep, at_, Is] at hD
                obtain ⟨hd0, hd1⟩ := hD
                go_simp
                exact hK _ _ (Grew.refl _) rfl
              refine ⟨fun a_ wx hR hD K hK => ?_, ?_⟩
              · have hG : Grew wr wx := (Grew.drew _).trans hR
                simp [Deps, Dep, at_, Is] at hD
                obtain ⟨hd0, hd1⟩ := hD
                go_simp
                exact hK _ _ (Grew.refl _) rfl
              refine ⟨fun a_ wx hR hD K hK => ?_, ?_⟩
              · have hG : Grew wr wx := (Grew.drew _).trans hR
                simp [Deps, Dep, at_, Is] at hD
                go_simp
                exact hK _ _ (Grew.refl _) rfl
              refine ⟨fun a_ wx hR hD => ⟨fun hgd K hK => ?_, fun hgd => ?_⟩, ?_⟩
              · have hG : Grew wr wx := (Grew.drew _).trans hR
                exfalso
                simp [Deps, Dep, at_, Is] at hD
                simp_all
              · exact rfl
              refine ⟨fun a_ wx hR hD => ⟨fun hgd K hK => ?_, fun hgd => ?_⟩, ?_⟩
              · have hG : Grew wr wx := (Grew.drew _).trans hR
                exfalso
                simp [Deps, Dep, at_, Is] at hD
                simp_all
              · exact rfl
              refine ⟨fun a_ wx hR hD => ⟨fun hgd K hK => ?_, fun hgd => ?_⟩, ?_⟩
              · have hG : Grew wr wx := (Grew.drew _).trans hR
                exfalso
                simp [Deps, Dep, at_, Is] at hD
                simp_all
              · exact rfl
              refine ⟨fun a_ wx hR hD => ⟨fun hgd K hK => ?_, fun hgd => ?_⟩, ?_⟩
              · have hG : Grew wr wx := (Grew.drew _).trans hR
                exfalso
                simp [Deps, Dep, at_, Is] at hD
                simp_all
              · exact rfl
              refine ⟨fun a_ wx hR hD => ⟨fun hgd K hK => ?_, fun hgd => ?_⟩, ?_⟩
              · have hG : Grew wr wx := (Grew.drew _).trans hR
                exfalso
                simp [Deps, Dep, at_, Is] at hD
                simp_all
              · exact rfl
              refine ⟨fun a_ wx hR hD => ⟨fun hgd K hK => ?_, fun hgd => ?_⟩, ?_⟩
              · have hG : Grew wr wx := (Grew.drew _).trans hR
                exfalso
                simp [Deps, Dep, at_, Is] at hD
                simp_all
              · exact rfl
              refine ⟨fun a_ wx hR hD => ⟨fun hgd K hK => ?_, fun hgd => ?_⟩, ?_⟩
              · have hG : Grew wr wx := (Grew.drew _).trans hR
                exfalso
                simp [Deps, Dep, at_, Is] at hD
                simp_all
              · exact rfl
              refine ⟨fun a_ wx hR hD => ⟨fun hgd K hK => ?_, fun hgd => ?_⟩, ?_⟩
              · have hG : Grew wr wx := (Grew.drew _).trans hR
                exfalso
                simp [Deps, Dep, at_, Is] at hD
                simp_all
              · exact rfl
              refine ⟨fun a_ wx hR hD => ⟨fun hgd K hK => ?_, fun hgd => ?_⟩, ?_⟩
              · have hG : Grew wr wx := (Grew.drew _).trans hR
                exfalso
                simp [Deps, Dep, at_, Is] at hD
                simp_all
              · exact rfl
              refine ⟨fun a_ wx hR hD => ⟨fun hgd K hK => ?_, fun hgd => ?_⟩, ?_⟩
              · have hG : Grew wr wx := (Grew.drew _).trans hR
                exfalso
                simp [Deps, Dep, at_, Is] at hD
                simp_all
              · exact rfl
              refine ⟨fun a_ wx hR hD => ⟨fun hgd K hK => ?_, fun hgd => ?_⟩, ?_⟩
              · have hG : Grew wr wx := (Grew.drew _).trans hR
                exfalso
                simp [Deps, Dep, at_, Is] at hD
                simp_all
              · exact rfl
              refine ⟨fun a_ wx hR hD => ⟨fun hgd K hK => ?_, fun hgd => ?_⟩, ?_⟩
              · have hG : Grew wr wx := (Grew.drew _).trans hR
                exfalso
                simp [Deps, Dep, at_, Is] at hD
                simp_all
              · exact rfl
              refine ⟨fun a_ wx hR hD => ⟨fun hgd K hK => ?_, fun hgd => ?_⟩, ?_⟩
              · have hG : Grew wr wx := (Grew.drew _).trans hR
                exfalso
                simp [Deps, Dep, at_, Is] at hD
                simp_all
              · exact rfl
              refine ⟨fun a_ wx hR hD => ⟨fun hgd K hK => ?_, fun hgd => ?_⟩, ?_⟩
              · have hG : Grew wr wx := (Grew.drew _).trans hR
                exfalso
                simp [Deps, Dep, at_, Is] at hD
                simp_all
              · exact rfl
              refine ⟨fun a_ wx hR hD => ⟨fun hgd K hK => ?_, fun hgd => ?_⟩, ?_⟩
              · have hG : Grew wr wx := (Grew.drew _).trans hR
                exfalso
                simp [Deps, Dep, at_, Is] at hD
                simp_all
              · exact rfl
              refine ⟨fun a_ wx hR hD => ⟨fun hgd K hK => ?_, fun hgd => ?_⟩, ?_⟩
              · have hG : Grew wr wx := (Grew.drew _).trans hR
                exfalso
                simp [Deps, Dep, at_, Is] at hD
                simp_all
              · exact rfl
              trivial
            · show EndHold _ _ _ _ _ _ _
              refine end_all (xs := [_, _, _, _, _, _, _, _, _, _, _, _, _, _, _, _, _, _, _, _, _, _]) ⟨rfl, rfl, rfl, rfl, rfl, rfl, rfl, rfl, rfl, rfl, rfl, rfl, rfl, rfl, rfl, rfl, rfl, rfl, rfl, rfl, rfl, rfl, trivial⟩ ?_
              rintro w3 hR1 -
              refine ⟨?_⟩
              have hG_w3 : Grew wr w3 := (Grew.drew _).trans hR1
              clear hR1
              simp only [Act.put, List.setIfInBounds_toArray, List.set_cons_succ, List.set_cons_zero, dropN, putEach]
              go_wp2_with fail
              go_ret2
              exact ⟨_, rfl, ⟨k, y, rfl, by rw [← HN.out]; omega, HK.out, by rw [← HN.out]; exact HXn.out, by rw [← HN.out]; omega, HY.out, fun h => by rw [← HN.out] at h; omega⟩, hgy.trans hG_w3⟩
end Go.Proofs.Ytaeobiilihklhaa.F
