/- The row of the law SignFinds: for every input the law's call returns true, whatever memory; no condition. Out of the contract SignFinds_c. -/
import Derived.Test.YtkapekndfnefeaaSD
import Derived.Test.YtkapekndfnefeaaRows
import Derived.WalkKit
import Derived.ProofKit
import Derived.OpenShut
import Derived.ShutString
import Derived.ChangeOld
import Derived.Below
import Derived.SizedLaws
import Derived.Test.YtkapekndfnefeaaWSized
import Derived.Lib.SmallJoins

-- SignFinds
namespace Go.Proofs.Ytkapekndfnefeaa.F
open Go Go.RowKit Go.Proofs.YtkapekndfnefeaaW.PrintWords Go.Proofs.YtkapekndfnefeaaW.PrintLast Go.Proofs.YtkapekndfnefeaaW.PrintMore Go.Proofs.YtkapekndfnefeaaM Go.Proofs.YtkapekndfnefeaaR
attribute [local go_sem] max2_int min2_int max_two min_two
set_option linter.unusedSimpArgs false
set_option linter.unusedVariables false
set_option maxRecDepth 100000
theorem posns_or (L : List S25) (n : Int) (i : Nat) (h : i < L.length) : decide (0 < (posns (L.take (i + 1)) n).length) = (decide (0 < (posns (L.take i) n).length) || ((L.getD i z25).f0 == n)) := by
  have e : L.take (i + 1) = L.take i ++ [L.getD i z25] := by
    rw [List.take_succ_eq_append_getElem h]; simp [List.getD, h]
  rw [e, posns_snoc]
  generalize (L.getD i z25).f0 = y
  rw [Bool.eq_iff_iff]
  by_cases hy : y = n
  · simp [hy]
  · simp [hy]
set_option maxHeartbeats 4000000 in
theorem SignFinds_c (w : World) (A : Option Addr) (c : Nat) (l : List S25) (s0 : Int) (s1 : ByteArray) (hC : Kd.C k25 w A l.length l) (hc : l.length ≤ c) (ok : ∀ x ∈ l, (Lit.int .u32 x.f0).wf = true ∧ x.f1.size ≤ 140737488351232) (ok0 : (Lit.int .u32 s0).wf = true) (ok1 : s1.size ≤ 140737488351232) :
    Calls Try.prog 6 #[.slice A l.length c, .agg #[.int .u32 s0, .string s1]] w (Tells w (Is (.bool true))) := by
  obtain ⟨b, hb, hfew⟩ := few_c l
  obtain ⟨n, hn⟩ : ∃ n, n = l.length := ⟨_, rfl⟩
  obtain ⟨ss, hss⟩ : ∃ ss, ss = s1.size := ⟨_, rfl⟩
  have HSS := Lib.hid hss.symm
  have HFEW := Lib.hid (fun w' (h : Grew w w') => hfew w' A c (Kd.C_below hC h) hc)
  rw [← hn] at HFEW hc hC ⊢
  have hss' := hss.symm
  by_cases hgo : b = true ∧ ss ≤ 100
  · obtain ⟨rfl, hs100⟩ := hgo
    obtain ⟨hl, hsz⟩ := hb rfl
    obtain ⟨M, hM⟩ : ∃ M, M = min n 1024 := ⟨_, rfl⟩
    have hm1 : (if (n : Int) < 1024 then (n : Int) else 1024) = (M : Int) := by rw [hM]; split <;> omega
    have hm2 : (if (1024 : Int) < (n : Int) then (1024 : Int) else (n : Int)) = (M : Int) := by rw [hM]; split <;> omega
    have HM := Lib.hid hM
    have HMT := Lib.hid (show (l.take 1024).length = M from by rw [List.length_take, ← hn, hM, Nat.min_comm])
    have HNEW := Lib.hid (fun w' (h : Grew w w') => inew_c w' A n c l (Kd.C_below hC h) hn.symm hc (fun x hx => (ok x hx).1))
    have HREF := Lib.hid (fun w' (h : Grew w w') => by
      have := rfind_c w' A c l ⟨s0, s1⟩ (by rw [← hn]; exact Kd.C_below hC h) (by omega) (by omega)
      rw [← hn] at this
      exact this)
    have HFP := Lib.hid (findP_eq (l.take 1024) ⟨s0, s1⟩)
    have HC := Lib.hid hC
    have HN := Lib.hid hn
    have HW0 := Lib.hid ok0
    have d1 : decide (100 < ss) = false := decide_eq_false (by omega)
    have d1' : decide (100 < (ss : Int)) = false := decide_eq_false (by omega)
    have hM2 : M ≤ 1024 := by omega
    have hMn : M ≤ n := by omega
    have hnB : n ≤ 1100 := by omega
    obtain ⟨k, ok2, iv0, hpo, hio, hcase⟩ : ∃ (k : Int) (f : Bool) (i : Int), pairO ((l.take 1024).findIdx? (isS ⟨s0, s1⟩)) = (k, f) ∧ intO ((l.take 1024).findIdx? (isS ⟨s0, s1⟩)) = i ∧ ((f = true ∧ 0 ≤ i ∧ k = i) ∨ (f = false ∧ i = -1 ∧ k = 0)) := by
      cases (l.take 1024).findIdx? (isS ⟨s0, s1⟩) with
      | none => exact ⟨0, false, -1, rfl, rfl, .inr ⟨rfl, rfl, rfl⟩⟩
      | some j => exact ⟨j, true, j, rfl, rfl, .inl ⟨rfl, by omega, rfl⟩⟩
    have HFP := Lib.hid (show findP (l.take 1024) s1 (posns (l.take 1024) s0) = (k, ok2) from by rw [← hpo]; exact findP_eq (l.take 1024) ⟨s0, s1⟩)
    rw [hio] at HREF
    obtain ⟨B, hB⟩ : ∃ B : Nat → Bool, B = fun m => decide (0 < (posns ((l.take 1024).take m) s0).length) := ⟨_, rfl⟩
    have HB0 := Lib.hid (show B 0 = false from by rw [hB]; rfl)
    have HBM := Lib.hid (show decide (0 < (posns (l.take 1024) s0).length) = B M from by
      have e : (l.take 1024).take M = l.take 1024 := List.take_of_length_le (by rw [HMT.out]; exact Nat.le_refl _)
      rw [hB]; simp only; rw [e])
    have HBS := Lib.hid (show ∀ m, m < M → B (m + 1) = (B m || ((l.getD m z25).f0 == s0)) from fun m hm => by
      have e : (l.take 1024).getD m z25 = l.getD m z25 := by
        rw [List.getD, List.getElem?_take, if_pos (by omega), List.getD]
      have h := posns_or (l.take 1024) s0 m (by rw [HMT.out]; exact hm)
      rw [e] at h
      rw [hB]
      exact h)
    obtain ⟨W0, hW0⟩ : ∃ W0, W0 = w.alloc (.cells #[.int .u32 s0, .string s1] 25) := ⟨_, rfl⟩
    obtain ⟨g, hg⟩ : ∃ g, g = w.heap.size := ⟨_, rfl⟩
    have hbl : Blk W0 g 25 [.int .u32 s0, .string s1] := by rw [hW0, hg]; exact Blk.new w _ _
    have hgw : Grew w W0 := by rw [hW0]; exact Grew.alloc _ _
    have CB := Lib.hid (show ∀ wx, Grew W0 wx → wx.cell? ⟨g, 0, none⟩ = some (.int .u32 s0) ∧ wx.cell? ⟨g, 1, none⟩ = some (.string s1) from fun wx h => ⟨by rw [(hbl.grew h).at_]; rfl, by rw [(hbl.grew h).at_]; rfl⟩)
    have HGW := Lib.hid hgw
    have HWE := Lib.hid hW0
    have HGE := Lib.hid hg
    clear hn hss hfew hb ok hl hsz hM hC ok0 ok1 hpo hio hB hbl hgw hW0 hg
    have hk2 : (k = iv0 ∧ ok2 = true ∧ decide (0 ≤ iv0) = true ∧ 0 ≤ iv0) ∨ (k = 0 ∧ ok2 = false ∧ iv0 = -1) := by
      rcases hcase with ⟨h1, h2, h3⟩ | ⟨h1, h2, h3⟩
      · exact .inl ⟨h3, h1, decide_eq_true h2, h2⟩
      · exact .inr ⟨h3, h1, h2⟩
    clear hcase
    rcases hk2 with ⟨rfl, rfl, e1, e2⟩ | ⟨rfl, rfl, rfl⟩
    all_goals
      go_enter Try.func6, Try.ntmps6
      go_wp2_with fail
      rw [← HWE.out, ← HGE.out]
      refine (HFEW.out _ HGW.out).mono ?_
      rintro e w1 ⟨_, rfl, rfl, hg1⟩
      have c1 := (CB.out w1 hg1).2
      go_wp2_with fail
      refine (HNEW.out _ (HGW.out.trans hg1)).mono ?_
      rintro e w2 ⟨_, rfl, ⟨p, lv, bb, base, D, rfl, hI⟩, hg2⟩
      have c0 := (CB.out w2 (hg1.trans hg2)).1
      have c1 := (CB.out w2 (hg1.trans hg2)).2
      have hF := ifind_c w2 _ p _ lv bb base D hI ⟨s0, s1⟩ HW0.out (by rw [HMT.out]; omega)
      rw [show findP (l.take 1024) (S25.mk s0 s1).f1 (posns (l.take 1024) (S25.mk s0 s1).f0) = _ from HFP.out] at hF
      have HF := Lib.hid hF
      have HI := Lib.hid hI
      have HGA := Lib.hid (hg1.trans hg2)
      clear hI hF hg1 hg2
      go_wp2_with fail
      refine HF.out.mono ?_
      rintro e w3 ⟨_, rfl, rfl, hg3⟩
      have c0 := (CB.out w3 (HGA.out.trans hg3)).1
      have c1 := (CB.out w3 (HGA.out.trans hg3)).2
      go_wp2_with fail
      refine (HREF.out w3 (HGW.out.trans (HGA.out.trans hg3))).mono ?_
      rintro e w4 ⟨_, rfl, rfl, hg4⟩
      have hg34 := hg3.trans hg4
      clear c0 c1
      go_wp2_with fail
      go_loopw [9, 10] (fun bv iv wr => ∃ m : Nat, m ≤ M ∧ iv = .int .i64 (m : Int) ∧ bv = .bool (B m) ∧ Grew w4 wr) (fun _ iv _ => M - (intOf iv).toNat)
      case atStart => exact ⟨0, Nat.zero_le _, rfl, by rw [HB0.out], Grew.refl _⟩
      case round =>
        obtain ⟨m, hm, rfl, hbv, hgr⟩ := hrel
        have HGR := Lib.hid (HGA.out.trans (hg34.trans hgr))
        have HGI := Lib.hid (hg34.trans hgr)
        by_cases hlt : m < M
        · have m1 : decide ((m : Int) < (n : Int)) = true := decide_eq_true (by omega)
          have m2 : decide (m < n) = true := decide_eq_true (by omega)
          have m3 : decide ((m : Int) < 1024) = true := decide_eq_true (by omega)
          have m4 : decide (m < 1024) = true := decide_eq_true (by omega)
          have i1 : (m : Int) < (n : Int) := by omega
          have hw : IntKind.i64.wrap ((m : Int) + 1) = (m : Int) + 1 := by rw [IntWalk.i64_in _ (by omega)]
          obtain ⟨ad0, hA, k0, -⟩ := at_T25 HC.out (m : Int) (by omega) i1
          rw [Int.toNat_natCast, show rd_T25 l (m : Int) = l.getD m z25 from by unfold rd_T25; rw [Int.toNat_natCast]] at k0
          subst hA
          have hbs := HBS.out m hlt
          obtain ⟨y, hy⟩ : ∃ y, y = (l.getD m z25).f0 := ⟨_, rfl⟩
          rw [← hy] at k0 hbs
          have K0 := Lib.hid (fun wx (h : Grew wr wx) => pw_cell_below ((HGW.out.trans HGR.out).trans h) k0)
          have C0 := Lib.hid (fun wx (h : Grew wr wx) => (CB.out wx (HGR.out.trans h)).1)
          clear hy k0 hg3 hg4 hg34
          cases hbm : B m with
          | true =>
            rw [hbm] at hbv hbs
            subst hbv
            have HBS1 := Lib.hid hbs
            clear hbs hbm
            go_wp2_with fail
            apply region_grew [Is _, Is _, Is undef, Is undef, Is undef, Is undef, Is undef, Is undef, Is undef] [([(9, none)], none), ([(42, some 0)], none), ([(0, none), (43, some 1)], some (43, false)), ([(10, none), (43, some 1)], some (43, false)), ([(44, some 2), (45, some 3), (43, some 1)], some (43, false)), ([(46, some 4), (43, some 1)], some (43, false)), ([(47, some 5), (43, some 1)], some (43, false)), ([(3, none), (43, some 1)], some (43, false)), ([(49, some 7), (43, some 1)], some (43, false))] [(42, 0), (43, 1), (44, 2), (45, 3), (46, 4), (47, 5), (48, 6), (49, 7), (50, 8)] rfl (by kernel_rfl) (by kernel_rfl) (show Stable Grew _ from ⟨Is.stable _, Is.stable _, Is.stable _, Is.stable _, Is.stable _, Is.stable _, Is.stable _, Is.stable _, Is.stable _, trivial⟩)
            · show OpsHold _ _ _ _ _ _ _ _ _
              refine ⟨fun a_ wx hR hD K hK => ?_, ?_⟩
              · have hG : Grew wr wx := (Grew.drew _).trans hR
                simp [Deps, Dep, at_, Is] at hD
                go_simp
                exact hK _ _ (Grew.refl _) rfl
              refine ⟨fun a_ wx hR hD K hK => ?_, ?_⟩
              · have hG : Grew wr wx := (Grew.drew _).trans hR
                simp [Deps, Dep, at_, Is] at hD
                go_simp
                exact hK _ _ (Grew.refl _) rfl
              refine ⟨fun a_ wx hR hD => ⟨fun hgd K hK => ?_, fun hgd => ?_⟩, ?_⟩
              · have hG : Grew wr wx := (Grew.drew _).trans hR
                exfalso
                simp [Deps, Dep, at_, Is] at hD
                simp_all
              · exact rfl
              refine ⟨fun a_ wx hR hD => ⟨fun hgd K hK => ?_, fun hgd => ?_⟩, ?_⟩
              · have hG : Grew wr wx := (Grew.drew _).trans hR
                exfalso
                simp [Deps, Dep, at_, Is] at hD
                simp_all
              · exact rfl
              refine ⟨fun a_ wx hR hD => ⟨fun hgd K hK => ?_, fun hgd => ?_⟩, ?_⟩
              · have hG : Grew wr wx := (Grew.drew _).trans hR
                exfalso
                simp [Deps, Dep, at_, Is] at hD
                simp_all
              · exact rfl
              refine ⟨fun a_ wx hR hD => ⟨fun hgd K hK => ?_, fun hgd => ?_⟩, ?_⟩
              · have hG : Grew wr wx := (Grew.drew _).trans hR
                exfalso
                simp [Deps, Dep, at_, Is] at hD
                simp_all
              · exact rfl
              refine ⟨fun a_ wx hR hD => ⟨fun hgd K hK => ?_, fun hgd => ?_⟩, ?_⟩
              · have hG : Grew wr wx := (Grew.drew _).trans hR
                exfalso
                simp [Deps, Dep, at_, Is] at hD
                simp_all
              · exact rfl
              refine ⟨fun a_ wx hR hD => ⟨fun hgd K hK => ?_, fun hgd => ?_⟩, ?_⟩
              · have hG : Grew wr wx := (Grew.drew _).trans hR
                exfalso
                simp [Deps, Dep, at_, Is] at hD
                simp_all
              · exact rfl
              refine ⟨fun a_ wx hR hD => ⟨fun hgd K hK => ?_, fun hgd => ?_⟩, ?_⟩
              · have hG : Grew wr wx := (Grew.drew _).trans hR
                exfalso
                simp [Deps, Dep, at_, Is] at hD
                simp_all
              · exact rfl
              trivial
            · show EndHold _ _ _ _ _ _ _
              refine end_all (xs := [_, _, _, _, _, _, _, _, _]) ⟨rfl, rfl, rfl, rfl, rfl, rfl, rfl, rfl, rfl, trivial⟩ ?_
              rintro w5 hR1 -
              refine ⟨?_⟩
              have hG_w5 : Grew wr w5 := (Grew.drew _).trans hR1
              clear hR1
              simp only [Act.put, List.setIfInBounds_toArray, List.set_cons_succ, List.set_cons_zero, dropN, putEach]
              go_wp2_with fail
              go_roundw
              case rel => exact ⟨m + 1, hlt, by go_num, by rw [HBS1.out]; rfl, hgr.trans hG_w5⟩
              case measure => simp [intOf]; omega
          | false =>
            rw [hbm] at hbv hbs
            subst hbv
            rw [Bool.false_or] at hbs
            have HBS1 := Lib.hid hbs
            clear hbs hbm
            go_wp2_with fail
            apply region_grew [Is _, Is _, Is _, Is _, Is _, Is _, Is _, Is _, Is _] [([(9, none)], none), ([(42, some 0)], none), ([(0, none), (43, some 1)], some (43, false)), ([(10, none), (43, some 1)], some (43, false)), ([(44, some 2), (45, some 3), (43, some 1)], some (43, false)), ([(46, some 4), (43, some 1)], some (43, false)), ([(47, some 5), (43, some 1)], some (43, false)), ([(3, none), (43, some 1)], some (43, false)), ([(49, some 7), (43, some 1)], some (43, false))] [(42, 0), (43, 1), (44, 2), (45, 3), (46, 4), (47, 5), (48, 6), (49, 7), (50, 8)] rfl (by kernel_rfl) (by kernel_rfl) (show Stable Grew _ from ⟨Is.stable _, Is.stable _, Is.stable _, Is.stable _, Is.stable _, Is.stable _, Is.stable _, Is.stable _, Is.stable _, trivial⟩)
            · show OpsHold _ _ _ _ _ _ _ _ _
              refine ⟨fun a_ wx hR hD K hK => ?_, ?_⟩
              · have hG : Grew wr wx := (Grew.drew _).trans hR
                simp [Deps, Dep, at_, Is] at hD
                go_simp
                exact hK _ _ (Grew.refl _) rfl
              refine ⟨fun a_ wx hR hD K hK => ?_, ?_⟩
              · have hG : Grew wr wx := (Grew.drew _).trans hR
                simp [Deps, Dep, at_, Is] at hD
                go_simp
                exact hK _ _ (Grew.refl _) rfl
              refine ⟨fun a_ wx hR hD => ⟨fun hgd K hK => ?_, fun hgd => ?_⟩, ?_⟩
              · have hG : Grew wr wx := (Grew.drew _).trans hR
                clear hgd
                simp [Deps, Dep, at_, Is] at hD
                obtain ⟨hd0, hd1⟩ := hD
                go_simp
                exact hK _ _ (Grew.refl _) rfl
              · have hG : Grew wr wx := (Grew.drew _).trans hR
                exfalso
                simp [Deps, Dep, at_, Is] at hD
                simp_all
              refine ⟨fun a_ wx hR hD => ⟨fun hgd K hK => ?_, fun hgd => ?_⟩, ?_⟩
              · have hG : Grew wr wx := (Grew.drew _).trans hR
                clear hgd
                simp [Deps, Dep, at_, Is] at hD
                obtain ⟨hd0, hd1⟩ := hD
                go_simp
                exact hK _ _ (Grew.refl _) rfl
              · have hG : Grew wr wx := (Grew.drew _).trans hR
                exfalso
                simp [Deps, Dep, at_, Is] at hD
                simp_all
              refine ⟨fun a_ wx hR hD => ⟨fun hgd K hK => ?_, fun hgd => ?_⟩, ?_⟩
              · have hG : Grew wr wx := (Grew.drew _).trans hR
                clear hgd
                simp [Deps, Dep, at_, Is] at hD
                obtain ⟨hd0, hd1, hd2⟩ := hD
                go_simp
                exact hK _ _ (Grew.refl _) rfl
              · have hG : Grew wr wx := (Grew.drew _).trans hR
                exfalso
                simp [Deps, Dep, at_, Is] at hD
                simp_all
              refine ⟨fun a_ wx hR hD => ⟨fun hgd K hK => ?_, fun hgd => ?_⟩, ?_⟩
              · have hG : Grew wr wx := (Grew.drew _).trans hR
                clear hgd
                simp [Deps, Dep, at_, Is] at hD
                obtain ⟨hd0, hd1⟩ := hD
                go_simp
                exact hK _ _ (Grew.refl _) rfl
              · have hG : Grew wr wx := (Grew.drew _).trans hR
                exfalso
                simp [Deps, Dep, at_, Is] at hD
                simp_all
              refine ⟨fun a_ wx hR hD => ⟨fun hgd K hK => ?_, fun hgd => ?_⟩, ?_⟩
              · have hG : Grew wr wx := (Grew.drew _).trans hR
                clear hgd
                simp [Deps, Dep, at_, Is] at hD
                obtain ⟨hd0, hd1⟩ := hD
                have e_ := K0.out wx hG
                go_simp
                exact hK _ _ (Grew.refl _) rfl
              · have hG : Grew wr wx := (Grew.drew _).trans hR
                exfalso
                simp [Deps, Dep, at_, Is] at hD
                simp_all
              refine ⟨fun a_ wx hR hD => ⟨fun hgd K hK => ?_, fun hgd => ?_⟩, ?_⟩
              · have hG : Grew wr wx := (Grew.drew _).trans hR
                clear hgd
                simp [Deps, Dep, at_, Is] at hD
                obtain ⟨hd0, hd1⟩ := hD
                go_simp
                exact hK _ _ (Grew.refl _) rfl
              · have hG : Grew wr wx := (Grew.drew _).trans hR
                exfalso
                simp [Deps, Dep, at_, Is] at hD
                simp_all
              refine ⟨fun a_ wx hR hD => ⟨fun hgd K hK => ?_, fun hgd => ?_⟩, ?_⟩
              · have hG : Grew wr wx := (Grew.drew _).trans hR
                clear hgd
                simp [Deps, Dep, at_, Is] at hD
                obtain ⟨hd0, hd1⟩ := hD
                have e_ := C0.out wx hG
                go_simp
                exact hK _ _ (Grew.refl _) rfl
              · have hG : Grew wr wx := (Grew.drew _).trans hR
                exfalso
                simp [Deps, Dep, at_, Is] at hD
                simp_all
              trivial
            · show EndHold _ _ _ _ _ _ _
              refine end_all (xs := [_, _, _, _, _, _, _, _, _]) ⟨rfl, rfl, rfl, rfl, rfl, rfl, rfl, rfl, rfl, trivial⟩ ?_
              rintro w5 hR1 -
              refine ⟨?_⟩
              have hG_w5 : Grew wr w5 := (Grew.drew _).trans hR1
              clear hR1
              simp only [Act.put, List.setIfInBounds_toArray, List.set_cons_succ, List.set_cons_zero, dropN, putEach]
              go_wp2_with fail
              go_roundw
              case rel => exact ⟨m + 1, hlt, by go_num, by rw [HBS1.out], hgr.trans hG_w5⟩
              case measure => simp [intOf]; omega
        · obtain rfl : m = M := by omega
          rw [← HBM.out] at hbv
          have c0 := (CB.out wr HGR.out).1
          have hI4 := HI.out.grew HGI.out
          have hWk := iweak_c wr _ p _ lv bb base D hI4 s0 HW0.out (by rw [HMT.out]; omega)
          obtain ⟨bw, hbw⟩ : ∃ bw, bw = decide (0 < (posns (l.take 1024) s0).length) := ⟨_, rfl⟩
          rw [← hbw] at hWk hbv
          have HWK := Lib.hid hWk
          have HLEN := Lib.hid (fun w' (h : Grew wr w') => by
            have := ilen_c w' _ p _ _ lv bb base D (hI4.grew h)
            rw [HMT.out] at this
            exact this)
          subst hbv
          clear hbw hWk hI4 hg3 hg4 hg34
          have hex : (decide ((m : Int) < (n : Int)) = true ∧ decide (m < n) = true ∧ decide ((m : Int) < 1024) = false ∧ decide (m < 1024) = false) ∨ (decide ((m : Int) < (n : Int)) = false ∧ decide (m < n) = false) := by
            have := HM.out
            by_cases h : m < n
            · exact .inl ⟨decide_eq_true (by omega), decide_eq_true h, decide_eq_false (by omega), decide_eq_false (by omega)⟩
            · exact .inr ⟨decide_eq_false (by omega), decide_eq_false h⟩
          rcases hex with ⟨x1, x2, x3, x4⟩ | ⟨x1, x2⟩
          all_goals
            go_wp2_with fail
            refine HWK.out.mono ?_
            rintro e w6 ⟨_, rfl, rfl, hg6⟩
            go_wp2_with fail
            refine (HLEN.out w6 hg6).mono ?_
            rintro e w7 ⟨_, rfl, rfl, hg7⟩
            go_wp2_with fail
            refine (lives_c _).mono ?_
            rintro e w8 ⟨_, rfl, rfl, hg8⟩
            go_wp2_with fail
            go_ret
            exact ⟨_, rfl, rfl, (HGW.out.trans HGR.out).trans (hg6.trans (hg7.trans hg8))⟩
  · obtain ⟨W0, hW0⟩ : ∃ W0, W0 = w.alloc (.cells #[.int .u32 s0, .string s1] 25) := ⟨_, rfl⟩
    obtain ⟨g, hg⟩ : ∃ g, g = w.heap.size := ⟨_, rfl⟩
    have hbl : Blk W0 g 25 [.int .u32 s0, .string s1] := by rw [hW0, hg]; exact Blk.new w _ _
    have hgw : Grew w W0 := by rw [hW0]; exact Grew.alloc _ _
    have CB := Lib.hid (show ∀ wx, Grew W0 wx → wx.cell? ⟨g, 1, none⟩ = some (.string s1) from fun wx h => by rw [(hbl.grew h).at_]; rfl)
    have HGW := Lib.hid hgw
    have HWE := Lib.hid hW0
    have HGE := Lib.hid hg
    have hgo2 : b = false ∨ (b = true ∧ decide (100 < ss) = true ∧ decide (100 < (ss : Int)) = true ∧ 100 < ss) := by
      cases b
      · exact .inl rfl
      · simp only [true_and] at hgo
        exact .inr ⟨rfl, decide_eq_true (by omega), decide_eq_true (by omega), by omega⟩
    clear hn hss hfew hb ok hC ok0 ok1 hbl hgw hW0 hg hgo
    rcases hgo2 with rfl | ⟨rfl, x1, x2, x3⟩
    all_goals
      go_enter Try.func6, Try.ntmps6
      go_wp2_with fail
      rw [← HWE.out, ← HGE.out]
      refine (HFEW.out _ HGW.out).mono ?_
      rintro e w1 ⟨_, rfl, rfl, hg1⟩
      have c1 := CB.out w1 hg1
      go_wp2_with fail
      refine (lives_c _).mono ?_
      rintro e w2 ⟨_, rfl, rfl, hg2⟩
      go_wp2_with fail
      go_ret
      exact ⟨_, rfl, rfl, HGW.out.trans (hg1.trans hg2)⟩
end Go.Proofs.Ytkapekndfnefeaa.F

-- RowSignFinds
namespace Go.Proofs.Ytkapekndfnefeaa.signFinds
open Go.ChangeShapes Go.WideShapes Go.ChangeAt Go.RowKit
open Go.ChangeMaps (open_string shut_string)
set_option linter.unusedVariables false
set_option linter.unusedSimpArgs false
theorem own : ownKnob Try.prog.godebug = none := by kernel_rfl
theorem laidOut : laidOutB Try.prog = true := by kernel_rfl
set_option maxRecDepth 100000 in
theorem lifted (os : Os) (started : os.Started) (H : Type) (enc : TypeId × Value → H) :
    ReturnsInHanded {} Try.checked os 6 .any (Rows.signFindsSpec.pre6 enc Try.prog Try.f6 Rows.signFindsRow.domain false) (Rows.signFindsSpec.post enc Try.prog Try.f6 false true false false) := by
  refine returnsInHanded_of_change_sized (C := Try.checked) own started (by kernel_rfl) Try.func6
    (ChangeSpec.witness6 (enc := enc) (C := Try.checked) false ⟨#[], #[.slice none 0 0, .agg #[.int .u32 0, .string ByteArray.empty]], []⟩ 8 (by kernel_rfl) (by kernel_rfl) (by kernel_rfl) (by kernel_rfl)) ?_
  intro W base args ds gs before hval0 hW hcnd hsz0 _
  have hsz : (DataW.weightsEach Try.prog (Try.f6.params.toList ++ Rows.signFindsSpec.plain.varTypes Try.prog) (ds ++ gs)).all (· ≤ reachBytes) = true := hsz0
  have hval : ∀ (j : Nat) t v, Try.f6.params[j]? = some t → args[j]? = some v → Value.okWide Try.prog W .any base t v := hval0
  have hW' := hW
  obtain ⟨p, q, hA0, hV, rfl, hfz, hnd⟩ := hW
  have hA : DataW.TrodAll enc Try.prog W 0 (fun _ => true) true Try.f6.params.toList args.toList ds p := hA0
  rw [Try.params6] at hA hval hsz
  obtain ⟨v0, vs0, d0, ds0, p0, q0, hargs, rfl, rfl, h0, r0⟩ := trodAll_cons hA
  obtain ⟨v1, vs1, d1, ds1, p1, q1, rfl, rfl, rfl, h1, r1⟩ := trodAll_cons r0
  obtain ⟨rfl, rfl, rfl⟩ := trodAll_nil r1
  obtain rfl : args = #[v0, v1] := by cases args; simp_all
  obtain ⟨rfl, rfl⟩ := trodVars_none hV
  obtain ⟨a0, len0, cap0, rfl⟩ := okWide_slice Try.underlying34 (hval 0 34 v0 rfl rfl)
  have k0 := h0
  have lt0 : ∀ x ∈ p0, x.block < W.heap.size := by obtain ⟨m, hm⟩ := k0; exact DataW.trod_lt m _ _ _ hm
  obtain ⟨x0, ⟨A0, cp0, e0, hc0, hC0⟩, ok0⟩ := Go.Proofs.YtkapekndfnefeaaO.opensW_arg (d := (Go.Proofs.YtkapekndfnefeaaW.PrintWords.Kd.slice 25 Go.Proofs.Ytkapekndfnefeaa.F.k25)) (Go.Proofs.YtkapekndfnefeaaO.opensW_slice Try.underlying34 (show Go.Proofs.YtkapekndfnefeaaO.OpensW _ _ Go.Proofs.Ytkapekndfnefeaa.F.k25 _ from Go.Proofs.YtkapekndfnefeaaO.opensW_iso (fun x : Go.Proofs.Ytkapekndfnefeaa.F.S25 => (x.f0, x.f1)) (fun p => ⟨p.1, p.2⟩) (fun _ => rfl) (Go.Proofs.YtkapekndfnefeaaO.opensW_struct Try.underlying25 (Go.Proofs.YtkapekndfnefeaaO.opensF_cons (Go.Proofs.YtkapekndfnefeaaO.Opens.w (Go.Proofs.YtkapekndfnefeaaO.opens_int Try.underlying23)) (by kernel_rfl) (Go.Proofs.YtkapekndfnefeaaO.opensF_one (Go.Proofs.YtkapekndfnefeaaO.opensW_string Try.underlying9) (by kernel_rfl))) (by kernel_rfl))) (by kernel_rfl)) hsz (j := 0) (t := 34) rfl rfl h0
  obtain ⟨rfl, rfl, rfl⟩ := Value.slice.inj (List.cons.inj e0).1
  have k1 := h1
  have lt1 : ∀ x ∈ p1, x.block < W.heap.size := by obtain ⟨m, hm⟩ := k1; exact DataW.trod_lt m _ _ _ hm
  obtain ⟨cs1, rfl, hcs1⟩ := Go.Proofs.YtkapekndfnefeaaO.okWide_struct Try.underlying25 (hval 1 25 v1 rfl rfl)
  obtain ⟨⟨x1_0, x1_1⟩, ⟨c1_0, c1_1, e1_0, K1_0, K1_1⟩, ok1_0, ok1_1⟩ := Go.Proofs.YtkapekndfnefeaaO.opensW_arg (d := (Go.Proofs.YtkapekndfnefeaaW.PrintWords.Kd.pair (Go.Proofs.YtkapekndfnefeaaW.PrintWords.Kd.int .u32) Go.Proofs.YtkapekndfnefeaaW.PrintWords.Kd.string)) (Go.Proofs.YtkapekndfnefeaaO.opensW_struct Try.underlying25 (Go.Proofs.YtkapekndfnefeaaO.opensF_cons (Go.Proofs.YtkapekndfnefeaaO.Opens.w (Go.Proofs.YtkapekndfnefeaaO.opens_int Try.underlying23)) (by kernel_rfl) (Go.Proofs.YtkapekndfnefeaaO.opensF_one (Go.Proofs.YtkapekndfnefeaaO.opensW_string Try.underlying9) (by kernel_rfl))) (by kernel_rfl)) hsz (j := 1) (t := 25) rfl rfl h1
  obtain rfl := K1_0
  obtain rfl := K1_1
  obtain rfl : cs1 = #[.int .u32 x1_0, .string x1_1] := Array.ext' (by first | exact e1_0 | simpa using e1_0)
  clear hA0 hval0 hsz0 hsz
  refine (Go.Proofs.YtkapekndfnefeaaR.is_tells (Go.Proofs.Ytkapekndfnefeaa.F.SignFinds_c W a0 cap0 x0 x1_0 x1_1 hC0 hc0 ok0 ok1_0 ok1_1)).mono fun e W' ⟨he, bel⟩ => ?_
  subst he
  exact ⟨_, rfl, _, _, _, [], _, [], hW', trodAll_mk1 (shut_bool Try.underlying4 _), (trodAll_cons_mk (Below.trod laidOut (by kernel_rfl) (of_decide_eq_true (by kernel_rfl)) k0 bel lt0) (trodAll_cons_mk (Below.trod laidOut (by kernel_rfl) (of_decide_eq_true (by kernel_rfl)) k1 bel lt1) trodAll_mk0)), rfl, bel.frame _, fun h => by cases h⟩
theorem over : Rows.signFindsRow.holds Try.pinned (OpenSpec.ofChange Rows.signFindsSpec) :=
  OpenClaim.holds_of_wide 6 Try.f6 rfl rfl rfl rfl rfl rfl rfl ⟨rfl, rfl, rfl, rfl, rfl⟩ rfl rfl rfl rfl rfl (by kernel_rfl) Try.func6 (by kernel_rfl)
    (of_decide_eq_true (by kernel_rfl)) (by unfold Func.isWrapper; first | (rw [if_pos (by decide +kernel)]; kernel_rfl) | (rw [if_neg (by decide +kernel)]; exact ⟨rfl, rfl⟩))
    (fun os started H enc _ => lifted os started H enc)
end Go.Proofs.Ytkapekndfnefeaa.signFinds
namespace Go.Proofs.Ytkapekndfnefeaa
/-- The row, under a short name, for the claim. -/
theorem signFinds_holds : Rows.SignFindsSaid := signFinds.over
#print axioms signFinds_holds
end Go.Proofs.Ytkapekndfnefeaa
