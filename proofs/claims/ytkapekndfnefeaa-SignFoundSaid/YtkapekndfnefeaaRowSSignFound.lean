/- The row of the law SignFound: for every input the law's call returns true, whatever memory; no condition. Out of the contract SignFound_c. -/
import Derived.Test.YtkapekndfnefeaaSD
import Derived.Test.YtkapekndfnefeaaRows
import Derived.WalkKit
import Derived.ProofKit
import Derived.OpenShut
import Derived.ShutString
import Derived.ChangeOld
import Derived.Below
import Derived.SizedLaws
import Derived.Test.YtkapekndfnefeaaWSized

-- SignFound
namespace Go.Proofs.Ytkapekndfnefeaa.F
open Go Go.RowKit Go.Proofs.YtkapekndfnefeaaW.PrintWords Go.Proofs.YtkapekndfnefeaaW.PrintLast Go.Proofs.YtkapekndfnefeaaW.PrintMore Go.Proofs.YtkapekndfnefeaaM Go.Proofs.YtkapekndfnefeaaR
attribute [local go_sem] max2_int min2_int max_two min_two
set_option linter.unusedSimpArgs false
set_option linter.unusedVariables false
set_option maxRecDepth 100000
theorem blocks_few3 (t : ByteArray) (size : Int) (ht : t.size ≤ 300) : ∃ (k : Nat) (L : List ByteArray) (e : Int), sign_Blocks.f k t size = some (L, e) ∧ (e ≠ 0 → L = []) ∧ L.length ≤ 500 ∧ ∀ b ∈ L, b.size ≤ 1024 := by
  obtain ⟨k, L, e, h1, h2, ⟨he, hL⟩ | ⟨s, hs, h0, h128, h1024, he, hL⟩⟩ := blocks_f t size (by omega)
  · exact ⟨k, L, e, h1, fun _ => hL, by rw [hL]; simp, by rw [hL]; simp⟩
  · refine ⟨k, L, e, h1, fun h => absurd he h, ?_, ?_⟩
    · rw [hL, blksT_len]
      unfold cntT
      have := Nat.div_le_self (t.size + s - 1) s
      omega
    · intro b hb
      rw [hL] at hb
      unfold blksT at hb
      obtain ⟨m, -, rfl⟩ := List.mem_map.1 hb
      unfold blkT
      rw [ByteArray.size_extract]
      omega
theorem isS_iff (s x : S25) : isS s x = true ↔ x = s := by
  unfold isS
  simp only [Bool.and_eq_true, decide_eq_true_eq]
  cases s; cases x; simp
theorem found_at (S : List S25) (i : Nat) (hi : i < S.length) : ∃ j, j ≤ i ∧ S.findIdx? (isS (S.getD i z25)) = some j ∧ S.getD j z25 = S.getD i z25 := by
  obtain ⟨x, hx⟩ : ∃ x, x = S.getD i z25 := ⟨_, rfl⟩
  rw [← hx]
  have hm : S[i]? = some x := by rw [hx]; simp [List.getD, hi]
  cases hf : S.findIdx? (isS x) with
  | none =>
    rw [List.findIdx?_eq_none_iff] at hf
    have := hf x (List.mem_of_getElem? hm)
    rw [(isS_iff x x).2 rfl] at this
    cases this
  | some j =>
    rw [List.findIdx?_eq_some_iff_getElem] at hf
    obtain ⟨hj, h1, h2⟩ := hf
    refine ⟨j, ?_, rfl, ?_⟩
    · rcases Nat.lt_or_ge i j with h | h
      · exfalso
        apply h2 i h
        have : S[i] = x := by rw [List.getElem?_eq_getElem hi] at hm; exact Option.some.inj hm
        rw [this]
        exact (isS_iff x x).2 rfl
      · exact h
    · have := (isS_iff x _).1 h1
      simp [List.getD, hj, this]
theorem weak_at (S : List S25) (i : Nat) (hi : i < S.length) : 0 < (posns S (S.getD i z25).f0).length := by
  unfold posns
  rw [List.length_map]
  exact List.length_pos_of_mem (a := i) (by rw [List.mem_filter, List.mem_range]; exact ⟨hi, by simp⟩)
set_option maxHeartbeats 4000000 in
theorem SignFound_c (w : World) (key t : ByteArray) (size : Int) (hk : key.size ≤ 140737488351232) (ht : t.size ≤ 140737488351232) (hs : (Lit.int .i64 size).wf = true) :
    Calls Try.prog 8 #[.string key, .string t, .int .i64 size] w (Tells w (Is (.bool true))) := by
  clear hs
  obtain ⟨ks, hks⟩ : ∃ ks, ks = key.size := ⟨_, rfl⟩
  obtain ⟨bs, hbs⟩ : ∃ bs, bs = t.size := ⟨_, rfl⟩
  have hks' := hks.symm
  have hbs' := hbs.symm
  by_cases hgo : ks ≤ 200 ∧ bs ≤ 300
  · obtain ⟨k, L, e, hf1, he, hL, hb⟩ := blocks_few3 t size (by omega)
    have H0 := Lib.hid (fun w => signs_c w key t size k L e hf1 he (by omega) (fun b h => by have := hb b h; omega) (by omega))
    have H1 := Lib.hid (fun w => sign_Blocks.calls k t size _ _ w hf1)
    have HONE := Lib.hid (fun w b (h : b ∈ L) => one_c w key b (by omega) (by have := hb b h; omega))
    have d1 : decide (200 < ks) = false := decide_eq_false (by omega)
    have d1' : decide (200 < (ks : Int)) = false := decide_eq_false (by omega)
    have d2 : decide (300 < bs) = false := decide_eq_false (by omega)
    have d2' : decide (300 < (bs : Int)) = false := decide_eq_false (by omega)
    obtain ⟨n, hn⟩ : ∃ n, n = L.length := ⟨_, rfl⟩
    have HN := Lib.hid hn.symm
    have HLn := Lib.hid (show n ≤ 500 from by omega)
    obtain ⟨S, hS⟩ : ∃ S, S = L.map (oneS key) := ⟨_, rfl⟩
    have HM := Lib.hid (show S.length = n from by rw [hS, List.length_map, hn])
    have HS := Lib.hid hS
    have HWF := Lib.hid (show ∀ x ∈ S, (Lit.int .u32 x.f0).wf = true from fun x hx => by
      rw [hS] at hx
      obtain ⟨b, -, rfl⟩ := List.mem_map.1 hx
      have := weak_range (bytesOf b)
      exact WalkArith.wf_u32 (by show 0 ≤ weak (bytesOf b) ∧ weak (bytesOf b) ≤ 4294967295; omega))
    rw [← hS] at H0
    have hdec : e = 0 ∨ (e ≠ 0 ∧ (e == 0) = false ∧ (e != 0) = true ∧ decide (e = 0) = false ∧ n = 0) := by
      by_cases h : e = 0
      · exact .inl h
      · refine .inr ⟨h, by simpa using h, by simpa using h, decide_eq_false h, ?_⟩
        rw [hn, he h]; rfl
    clear hk ht hks hbs hgo hf1 he hL hb hn hS
    rcases hdec with rfl | ⟨h0, x1, x2, x3, rfl⟩
    · go_enter Try.func8, Try.ntmps8
      go_wp2_with fail
      refine (H0.out _).mono ?_
      rintro e0 w1 ⟨_, rfl, ⟨v0, rfl, hown⟩, hg1⟩
      obtain ⟨A0, c0, rfl, hc0, hC0⟩ := sg_C (by rw [HM.out] at hown; exact hown) HM.out
      have HC0 := Lib.hid hC0
      clear hown hC0
      go_wp2_with fail
      refine (H1.out _).mono ?_
      rintro e1 w2 ⟨v1, rfl, hR1, hg2⟩
      obtain ⟨A1, c1, hv1, hc1, hC1⟩ := Kd.R_reads hR1
      rw [HN.out] at hC1 hc1 hv1
      subst hv1
      have HC1 := Lib.hid hC1
      clear hR1 hC1 hc1
      go_wp2_with fail
      refine (inew_c w2 A0 n c0 S (Kd.C_below HC0.out hg2) HM.out hc0 HWF.out).mono ?_
      rintro e w3 ⟨_, rfl, ⟨p, lv, bb, base, D, rfl, hI⟩, hg3⟩
      rw [show S.take 1024 = S from List.take_of_length_le (by rw [HM.out]; have := HLn.out; omega)] at hI
      have HI := Lib.hid hI
      have hg23 := Grew.trans hg2 hg3
      clear hI hc0
      go_wp2_with fail
      go_loopw [12] (fun iv wr => ∃ m : Nat, m ≤ n ∧ m ≤ 60 ∧ iv = .int .i64 (m : Int) ∧ Grew w3 wr) (fun iv _ => n - (intOf iv).toNat)
      case atStart => exact ⟨0, Nat.zero_le _, Nat.zero_le _, rfl, Grew.refl _⟩
      case round =>
        obtain ⟨m, hm, hm60, rfl, hgr⟩ := hrel
        by_cases hlt : m < n ∧ m < 60
        · obtain ⟨hlt, h60⟩ := hlt
          have m1 : decide ((m : Int) < (n : Int)) = true := decide_eq_true (by omega)
          have m2 : decide (m < n) = true := decide_eq_true (by omega)
          have m3 : decide ((m : Int) < 60) = true := decide_eq_true (by omega)
          have m4 : decide (m < 60) = true := decide_eq_true (by omega)
          have i1 : (m : Int) < (n : Int) := by omega
          have hw : IntKind.i64.wrap ((m : Int) + 1) = (m : Int) + 1 := by rw [IntWalk.i64_in _ (by omega)]
          have hmS : m < S.length := by rw [HM.out]; exact hlt
          obtain ⟨j, hj, hfi, hje⟩ := found_at S m hmS
          obtain ⟨x, hx⟩ : ∃ x, x = S.getD m z25 := ⟨_, rfl⟩
          have hwk := weak_at S m hmS
          rw [← hx] at hfi hje hwk
          have hxm : x ∈ S := by rw [hx]; simp [List.getD, hmS]
          have hxL : x = oneS key (L.getD m ByteArray.empty) := by
            have hmL : m < L.length := by rw [HN.out]; exact hlt
            rw [hx, HS.out]; simp [List.getD, hmL]
          have hfp : findP S x.f1 (posns S x.f0) = ((j : Int), true) := by rw [findP_eq, hfi]; rfl
          obtain ⟨ad1, hA1, hcell⟩ := strs_cell HC1.out m hlt
          subst hA1
          obtain ⟨ad0, hA0, k0, k1⟩ := at_T25 HC0.out (m : Int) (by omega) i1
          subst hA0
          obtain ⟨ad2, hA2, j0, j1⟩ := at_T25 HC0.out (j : Int) (by omega) (by omega)
          obtain rfl := Option.some.inj hA2
          rw [Int.toNat_natCast, show rd_T25 S (m : Int) = x from by unfold rd_T25; rw [Int.toNat_natCast, hx]] at k0 k1
          rw [Int.toNat_natCast, show rd_T25 S (j : Int) = x from by unfold rd_T25; rw [Int.toNat_natCast, hje]] at j0 j1
          have hbm := List.getElem_mem (l := L) (n := m) (by rw [HN.out]; exact hlt)
          have hse : ∀ w, Calls Try.prog 10 #[.string key, .string (L.getD m ByteArray.empty)] w (Tells w (Is (.agg #[.int .u32 x.f0, .string x.f1]))) := fun w => by
            rw [hxL]
            exact HONE.out w _ (by rw [List.getD_eq_getElem?_getD, List.getElem?_eq_getElem (by rw [HN.out]; exact hlt)]; exact hbm)
          have HSE := Lib.hid hse
          have HFD := Lib.hid (show ∀ w', Idx w2.heap.size p S S lv bb base D w' → Calls Try.prog 18 #[.pointer (some ⟨p, 0, none⟩), .agg #[.int .u32 x.f0, .string x.f1]] w' (Tells w' (Is (.tuple #[.int .i64 (j : Int), .bool true]))) from fun w' h => by
            have := ifind_c w' _ p _ lv bb base D h x (HWF.out x hxm) (by rw [HM.out]; have := HLn.out; omega)
            rw [hfp] at this
            exact this)
          have HWK := Lib.hid (show ∀ w', Idx w2.heap.size p S S lv bb base D w' → Calls Try.prog 20 #[.pointer (some ⟨p, 0, none⟩), .int .u32 x.f0] w' (Tells w' (Is (.bool true))) from fun w' h => by
            have := iweak_c w' _ p _ lv bb base D h x.f0 (HWF.out x hxm) (by rw [HM.out]; have := HLn.out; omega)
            rw [decide_eq_true hwk] at this
            exact this)
          have heq : ∀ w' : World, (Op.equalIn 10000 25 (.agg #[.int .u32 x.f0, .string x.f1]) (.agg #[.int .u32 x.f0, .string x.f1])).run Try.prog w' = .ok true w' := fun w' => by
            have h := eqA25 9998 w' x.f0 x.f0 x.f1 x.f1
            simpa using h
          have HEQ := Lib.hid heq
          have KK := Lib.hid (fun wx (h : Grew wr wx) => And.intro (pw_cell_below ((hg23.trans hgr).trans h) k0) (pw_cell_below ((hg23.trans hgr).trans h) k1))
          have JJ := Lib.hid (fun wx (h : Grew wr wx) => And.intro (pw_cell_below ((hg23.trans hgr).trans h) j0) (pw_cell_below ((hg23.trans hgr).trans h) j1))
          have kb := pw_cell_below (hg3.trans hgr) hcell
          have HGR := Lib.hid hgr
          have jm : decide ((m : Int) < (j : Int)) = false := decide_eq_false (by omega)
          have jm2 : decide (m < j) = false := decide_eq_false (by omega)
          have jn : (j : Int) < (n : Int) := by omega
          have jd : decide (j < n) = true := decide_eq_true (by omega)
          clear hj hfi hje hx hwk hxm hxL hfp k0 k1 j0 j1 hbm hse heq hmS hcell hgr
          go_wp2_with fail
          refine (HSE.out wr).mono ?_
          rintro e w4 ⟨_, rfl, rfl, hg4⟩
          go_wp2_with fail
          refine (HFD.out w4 (HI.out.grew (HGR.out.trans hg4))).mono ?_
          rintro e w5 ⟨_, rfl, rfl, hg5⟩
          have hg45 := hg4.trans hg5
          clear kb
          go_wp2_with fail
          apply region_grew [Is _, Is _, Is _, Is _, Is _, Is _, Is _, Is _, Is _, Is _, Is _, Is _, Is _, Is _, Is _, Is _, Is _, Is _, Is _, Is _, Is _, Is _, Is _, Is _, Is _] [([(14, none)], none), ([(74, some 0)], none), ([(75, some 1)], none), ([(13, none), (76, some 2)], some (76, false)), ([(12, none), (76, some 2)], some (76, false)), ([(77, some 3), (78, some 4), (76, some 2)], some (76, false)), ([(76, some 2), (79, some 5)], none), ([(80, some 6)], none), ([(7, none), (81, some 7)], some (81, false)), ([(13, none), (81, some 7)], some (81, false)), ([(82, some 8), (83, some 9), (81, some 7)], some (81, false)), ([(84, some 10), (81, some 7)], some (81, false)), ([(7, none), (81, some 7)], some (81, false)), ([(12, none), (81, some 7)], some (81, false)), ([(86, some 12), (87, some 13), (81, some 7)], some (81, false)), ([(88, some 14), (81, some 7)], some (81, false)), ([(85, some 11), (89, some 15), (81, some 7)], some (81, false)), ([(81, some 7), (90, some 16)], none), ([(91, some 17)], none), ([(11, none), (92, some 18)], some (92, false)), ([(7, none), (92, some 18)], some (92, false)), ([(12, none), (92, some 18)], some (92, false)), ([(94, some 20), (95, some 21), (92, some 18)], some (92, false)), ([(96, some 22), (92, some 18)], some (92, false)), ([(97, some 23), (92, some 18)], some (92, false))] [(74, 0), (75, 1), (76, 2), (77, 3), (78, 4), (79, 5), (80, 6), (81, 7), (82, 8), (83, 9), (84, 10), (85, 11), (86, 12), (87, 13), (88, 14), (89, 15), (90, 16), (91, 17), (92, 18), (93, 19), (94, 20), (95, 21), (96, 22), (97, 23), (98, 24)] rfl (by kernel_rfl) (by kernel_rfl) (show Stable Grew _ from ⟨Is.stable _, Is.stable _, Is.stable _, Is.stable _, Is.stable _, Is.stable _, Is.stable _, Is.stable _, Is.stable _, Is.stable _, Is.stable _, Is.stable _, Is.stable _, Is.stable _, Is.stable _, Is.stable _, Is.stable _, Is.stable _, Is.stable _, Is.stable _, Is.stable _, Is.stable _, Is.stable _, Is.stable _, Is.stable _, trivial⟩)
          · show OpsHold _ _ _ _ _ _ _ _ _
            refine ⟨fun a_ wx hR hD K hK => ?_, ?_⟩
            · have hG : Grew w5 wx := (Grew.drew _).trans hR
              simp [Deps, Dep, at_, Is] at hD
              go_simp
              exact hK _ _ (Grew.refl _) rfl
            refine ⟨fun a_ wx hR hD K hK => ?_, ?_⟩
            · have hG : Grew w5 wx := (Grew.drew _).trans hR
              simp [Deps, Dep, at_, Is] at hD
              go_simp
              exact hK _ _ (Grew.refl _) rfl
            refine ⟨fun a_ wx hR hD K hK => ?_, ?_⟩
            · have hG : Grew w5 wx := (Grew.drew _).trans hR
              simp [Deps, Dep, at_, Is] at hD
              go_simp
              exact hK _ _ (Grew.refl _) rfl
            refine ⟨fun a_ wx hR hD => ⟨fun hgd K hK => ?_, fun hgd => ?_⟩, ?_⟩
            · have hG : Grew w5 wx := (Grew.drew _).trans hR
              clear hgd
              simp [Deps, Dep, at_, Is] at hD
              obtain ⟨hd0, hd1⟩ := hD
              go_simp
              exact hK _ _ (Grew.refl _) rfl
            · have hG : Grew w5 wx := (Grew.drew _).trans hR
              exfalso
              simp [Deps, Dep, at_, Is] at hD
              simp_all
            refine ⟨fun a_ wx hR hD => ⟨fun hgd K hK => ?_, fun hgd => ?_⟩, ?_⟩
            · have hG : Grew w5 wx := (Grew.drew _).trans hR
              clear hgd
              simp [Deps, Dep, at_, Is] at hD
              obtain ⟨hd0, hd1⟩ := hD
              go_simp
              exact hK _ _ (Grew.refl _) rfl
            · have hG : Grew w5 wx := (Grew.drew _).trans hR
              exfalso
              simp [Deps, Dep, at_, Is] at hD
              simp_all
            refine ⟨fun a_ wx hR hD => ⟨fun hgd K hK => ?_, fun hgd => ?_⟩, ?_⟩
            · have hG : Grew w5 wx := (Grew.drew _).trans hR
              clear hgd
              simp [Deps, Dep, at_, Is] at hD
              obtain ⟨hd0, hd1, hd2⟩ := hD
              go_simp
              exact hK _ _ (Grew.refl _) rfl
            · have hG : Grew w5 wx := (Grew.drew _).trans hR
              exfalso
              simp [Deps, Dep, at_, Is] at hD
              simp_all
            refine ⟨fun a_ wx hR hD K hK => ?_, ?_⟩
            · have hG : Grew w5 wx := (Grew.drew _).trans hR
              simp [Deps, Dep, at_, Is] at hD
              obtain ⟨hd0, hd1⟩ := hD
              go_simp
              exact hK _ _ (Grew.refl _) rfl
            refine ⟨fun a_ wx hR hD K hK => ?_, ?_⟩
            · have hG : Grew w5 wx := (Grew.drew _).trans hR
              simp [Deps, Dep, at_, Is] at hD
              go_simp
              exact hK _ _ (Grew.refl _) rfl
            refine ⟨fun a_ wx hR hD => ⟨fun hgd K hK => ?_, fun hgd => ?_⟩, ?_⟩
            · have hG : Grew w5 wx := (Grew.drew _).trans hR
              clear hgd
              simp [Deps, Dep, at_, Is] at hD
              obtain ⟨hd0, hd1⟩ := hD
              go_simp
              exact hK _ _ (Grew.refl _) rfl
            · have hG : Grew w5 wx := (Grew.drew _).trans hR
              exfalso
              simp [Deps, Dep, at_, Is] at hD
              simp_all
            refine ⟨fun a_ wx hR hD => ⟨fun hgd K hK => ?_, fun hgd => ?_⟩, ?_⟩
            · have hG : Grew w5 wx := (Grew.drew _).trans hR
              clear hgd
              simp [Deps, Dep, at_, Is] at hD
              obtain ⟨hd0, hd1⟩ := hD
              go_simp
              exact hK _ _ (Grew.refl _) rfl
            · have hG : Grew w5 wx := (Grew.drew _).trans hR
              exfalso
              simp [Deps, Dep, at_, Is] at hD
              simp_all
            refine ⟨fun a_ wx hR hD => ⟨fun hgd K hK => ?_, fun hgd => ?_⟩, ?_⟩
            · have hG : Grew w5 wx := (Grew.drew _).trans hR
              clear hgd
              simp [Deps, Dep, at_, Is] at hD
              obtain ⟨hd0, hd1, hd2⟩ := hD
              go_simp
              exact hK _ _ (Grew.refl _) rfl
            · have hG : Grew w5 wx := (Grew.drew _).trans hR
              exfalso
              simp [Deps, Dep, at_, Is] at hD
              simp_all
            refine ⟨fun a_ wx hR hD => ⟨fun hgd K hK => ?_, fun hgd => ?_⟩, ?_⟩
            · have hG : Grew w5 wx := (Grew.drew _).trans hR
              clear hgd
              simp [Deps, Dep, at_, Is] at hD
              obtain ⟨hd0, hd1⟩ := hD
              have e0 := (JJ.out wx (hg45.trans hG)).1
              have e1 := (JJ.out wx (hg45.trans hG)).2
              go_simp
              exact hK _ _ (Grew.refl _) rfl
            · have hG : Grew w5 wx := (Grew.drew _).trans hR
              exfalso
              simp [Deps, Dep, at_, Is] at hD
              simp_all
            refine ⟨fun a_ wx hR hD => ⟨fun hgd K hK => ?_, fun hgd => ?_⟩, ?_⟩
            · have hG : Grew w5 wx := (Grew.drew _).trans hR
              clear hgd
              simp [Deps, Dep, at_, Is] at hD
              obtain ⟨hd0, hd1⟩ := hD
              go_simp
              exact hK _ _ (Grew.refl _) rfl
            · have hG : Grew w5 wx := (Grew.drew _).trans hR
              exfalso
              simp [Deps, Dep, at_, Is] at hD
              simp_all
            refine ⟨fun a_ wx hR hD => ⟨fun hgd K hK => ?_, fun hgd => ?_⟩, ?_⟩
            · have hG : Grew w5 wx := (Grew.drew _).trans hR
              clear hgd
              simp [Deps, Dep, at_, Is] at hD
              obtain ⟨hd0, hd1⟩ := hD
              go_simp
              exact hK _ _ (Grew.refl _) rfl
            · have hG : Grew w5 wx := (Grew.drew _).trans hR
              exfalso
              simp [Deps, Dep, at_, Is] at hD
              simp_all
            refine ⟨fun a_ wx hR hD => ⟨fun hgd K hK => ?_, fun hgd => ?_⟩, ?_⟩
            · have hG : Grew w5 wx := (Grew.drew _).trans hR
              clear hgd
              simp [Deps, Dep, at_, Is] at hD
              obtain ⟨hd0, hd1, hd2⟩ := hD
              go_simp
              exact hK _ _ (Grew.refl _) rfl
            · have hG : Grew w5 wx := (Grew.drew _).trans hR
              exfalso
              simp [Deps, Dep, at_, Is] at hD
              simp_all
            refine ⟨fun a_ wx hR hD => ⟨fun hgd K hK => ?_, fun hgd => ?_⟩, ?_⟩
            · have hG : Grew w5 wx := (Grew.drew _).trans hR
              clear hgd
              simp [Deps, Dep, at_, Is] at hD
              obtain ⟨hd0, hd1⟩ := hD
              have e0 := (KK.out wx (hg45.trans hG)).1
              have e1 := (KK.out wx (hg45.trans hG)).2
              go_simp
              exact hK _ _ (Grew.refl _) rfl
            · have hG : Grew w5 wx := (Grew.drew _).trans hR
              exfalso
              simp [Deps, Dep, at_, Is] at hD
              simp_all
            refine ⟨fun a_ wx hR hD => ⟨fun hgd K hK => ?_, fun hgd => ?_⟩, ?_⟩
            · have hG : Grew w5 wx := (Grew.drew _).trans hR
              clear hgd
              simp [Deps, Dep, at_, Is] at hD
              obtain ⟨hd0, hd1, hd2⟩ := hD
              have e0 := HEQ.out wx
              go_simp
              exact hK _ _ (Grew.refl _) rfl
            · have hG : Grew w5 wx := (Grew.drew _).trans hR
              exfalso
              simp [Deps, Dep, at_, Is] at hD
              simp_all
            refine ⟨fun a_ wx hR hD K hK => ?_, ?_⟩
            · have hG : Grew w5 wx := (Grew.drew _).trans hR
              simp [Deps, Dep, at_, Is] at hD
              obtain ⟨hd0, hd1⟩ := hD
              go_simp
              exact hK _ _ (Grew.refl _) rfl
            refine ⟨fun a_ wx hR hD K hK => ?_, ?_⟩
            · have hG : Grew w5 wx := (Grew.drew _).trans hR
              simp [Deps, Dep, at_, Is] at hD
              go_simp
              exact hK _ _ (Grew.refl _) rfl
            refine ⟨fun a_ wx hR hD => ⟨fun hgd K hK => ?_, fun hgd => ?_⟩, ?_⟩
            · have hG : Grew w5 wx := (Grew.drew _).trans hR
              clear hgd
              simp [Deps, Dep, at_, Is] at hD
              obtain ⟨hd0, hd1⟩ := hD
              go_simp
              exact hK _ _ (Grew.refl _) rfl
            · have hG : Grew w5 wx := (Grew.drew _).trans hR
              exfalso
              simp [Deps, Dep, at_, Is] at hD
              simp_all
            refine ⟨fun a_ wx hR hD => ⟨fun hgd K hK => ?_, fun hgd => ?_⟩, ?_⟩
            · have hG : Grew w5 wx := (Grew.drew _).trans hR
              clear hgd
              simp [Deps, Dep, at_, Is] at hD
              obtain ⟨hd0, hd1⟩ := hD
              go_simp
              exact hK _ _ (Grew.refl _) rfl
            · have hG : Grew w5 wx := (Grew.drew _).trans hR
              exfalso
              simp [Deps, Dep, at_, Is] at hD
              simp_all
            refine ⟨fun a_ wx hR hD => ⟨fun hgd K hK => ?_, fun hgd => ?_⟩, ?_⟩
            · have hG : Grew w5 wx := (Grew.drew _).trans hR
              clear hgd
              simp [Deps, Dep, at_, Is] at hD
              obtain ⟨hd0, hd1⟩ := hD
              go_simp
              exact hK _ _ (Grew.refl _) rfl
            · have hG : Grew w5 wx := (Grew.drew _).trans hR
              exfalso
              simp [Deps, Dep, at_, Is] at hD
              simp_all
            refine ⟨fun a_ wx hR hD => ⟨fun hgd K hK => ?_, fun hgd => ?_⟩, ?_⟩
            · have hG : Grew w5 wx := (Grew.drew _).trans hR
              clear hgd
              simp [Deps, Dep, at_, Is] at hD
              obtain ⟨hd0, hd1, hd2⟩ := hD
              go_simp
              exact hK _ _ (Grew.refl _) rfl
            · have hG : Grew w5 wx := (Grew.drew _).trans hR
              exfalso
              simp [Deps, Dep, at_, Is] at hD
              simp_all
            refine ⟨fun a_ wx hR hD => ⟨fun hgd K hK => ?_, fun hgd => ?_⟩, ?_⟩
            · have hG : Grew w5 wx := (Grew.drew _).trans hR
              clear hgd
              simp [Deps, Dep, at_, Is] at hD
              obtain ⟨hd0, hd1⟩ := hD
              go_simp
              exact hK _ _ (Grew.refl _) rfl
            · have hG : Grew w5 wx := (Grew.drew _).trans hR
              exfalso
              simp [Deps, Dep, at_, Is] at hD
              simp_all
            refine ⟨fun a_ wx hR hD => ⟨fun hgd K hK => ?_, fun hgd => ?_⟩, ?_⟩
            · have hG : Grew w5 wx := (Grew.drew _).trans hR
              clear hgd
              simp [Deps, Dep, at_, Is] at hD
              obtain ⟨hd0, hd1⟩ := hD
              have e0 := (KK.out wx (hg45.trans hG)).1
              go_simp
              exact hK _ _ (Grew.refl _) rfl
            · have hG : Grew w5 wx := (Grew.drew _).trans hR
              exfalso
              simp [Deps, Dep, at_, Is] at hD
              simp_all
            trivial
          · show EndHold _ _ _ _ _ _ _
            refine end_all (xs := [_, _, _, _, _, _, _, _, _, _, _, _, _, _, _, _, _, _, _, _, _, _, _, _, _]) ⟨rfl, rfl, rfl, rfl, rfl, rfl, rfl, rfl, rfl, rfl, rfl, rfl, rfl, rfl, rfl, rfl, rfl, rfl, rfl, rfl, rfl, rfl, rfl, rfl, rfl, trivial⟩ ?_
            rintro w6 hR1 -
            refine ⟨?_⟩
            have hG_w6 : Grew w5 w6 := (Grew.drew _).trans hR1
            clear hR1
            simp only [Act.put, List.setIfInBounds_toArray, List.set_cons_succ, List.set_cons_zero, dropN, putEach]
            have e0 := (KK.out w6 (hg45.trans hG_w6)).1
            go_wp2_with fail
            refine (HWK.out w6 (HI.out.grew (HGR.out.trans (hg45.trans hG_w6)))).mono ?_
            rintro e w7 ⟨_, rfl, rfl, hg7⟩
            go_wp2_with fail
            go_roundw
            case rel => exact ⟨m + 1, by omega, by omega, by go_num, HGR.out.trans ((hg45.trans hG_w6).trans hg7)⟩
            case measure => simp [intOf]; omega
        · have hex : (decide ((m : Int) < (n : Int)) = true ∧ decide (m < n) = true ∧ decide ((m : Int) < 60) = false ∧ decide (m < 60) = false) ∨ (decide ((m : Int) < (n : Int)) = false ∧ decide (m < n) = false) := by
            by_cases h : m < n
            · exact .inl ⟨decide_eq_true (by omega), decide_eq_true h, decide_eq_false (by omega), decide_eq_false (by omega)⟩
            · exact .inr ⟨decide_eq_false (by omega), decide_eq_false h⟩
          clear hlt
          rcases hex with ⟨x1, x2, x3, x4⟩ | ⟨x1, x2⟩
          all_goals
            go_wp2_with fail
            refine (lives_c _).mono ?_
            rintro e w4 ⟨_, rfl, rfl, hg4⟩
            go_wp2_with fail
            go_ret
            exact ⟨_, rfl, rfl, hg1.trans (hg23.trans (hgr.trans hg4))⟩
    · go_enter Try.func8, Try.ntmps8
      go_wp2_with fail
      refine (H0.out _).mono ?_
      rintro e0 w1 ⟨_, rfl, ⟨v0, rfl, hown⟩, hg1⟩
      obtain ⟨A0, c0, rfl, hc0, hC0⟩ := sg_C (by rw [HM.out] at hown; exact hown) HM.out
      clear hown hC0
      go_wp2_with fail
      refine (H1.out _).mono ?_
      rintro e1 w2 ⟨v1, rfl, hR1, hg2⟩
      obtain ⟨A1, c1, hv1, hc1, hC1⟩ := Kd.R_reads hR1
      rw [HN.out] at hC1 hc1 hv1
      subst hv1
      clear hR1 hC1 hc1
      go_wp2_with fail
      refine (lives_c _).mono ?_
      rintro e w4 ⟨_, rfl, rfl, hg4⟩
      go_wp2_with fail
      go_ret
      exact ⟨_, rfl, rfl, Grew.trans hg1 (Grew.trans hg2 hg4)⟩
  · have hgo2 : (decide (200 < ks) = true ∧ decide (200 < (ks : Int)) = true ∧ 200 < ks) ∨ ((decide (200 < ks) = false ∧ decide (200 < (ks : Int)) = false ∧ ¬ 200 < ks) ∧ decide (300 < bs) = true ∧ decide (300 < (bs : Int)) = true ∧ 300 < bs) := by
      by_cases h : 200 < ks
      · exact .inl ⟨decide_eq_true h, decide_eq_true (by omega), h⟩
      · have h2 : 300 < bs := by omega
        exact .inr ⟨⟨decide_eq_false h, decide_eq_false (by omega), h⟩, decide_eq_true h2, decide_eq_true (by omega), h2⟩
    clear hk ht hks hbs hgo
    rcases hgo2 with ⟨d1, d2, d3⟩ | ⟨⟨d1, d2, d3⟩, d4, d5, d6⟩
    all_goals
      go_enter Try.func8, Try.ntmps8
      go_wp2_with fail
      refine (lives_c _).mono ?_
      rintro e w2 ⟨_, rfl, rfl, hg2⟩
      go_wp2_with fail
      go_ret
      exact ⟨_, rfl, rfl, hg2⟩
end Go.Proofs.Ytkapekndfnefeaa.F

-- RowSignFound
namespace Go.Proofs.Ytkapekndfnefeaa.signFound
open Go.ChangeShapes Go.WideShapes Go.ChangeAt Go.RowKit
open Go.ChangeMaps (open_string shut_string)
set_option linter.unusedVariables false
set_option linter.unusedSimpArgs false
theorem own : ownKnob Try.prog.godebug = none := by kernel_rfl
theorem laidOut : laidOutB Try.prog = true := by kernel_rfl
set_option maxRecDepth 100000 in
theorem lifted (os : Os) (started : os.Started) (H : Type) (enc : TypeId × Value → H) :
    ReturnsInHanded {} Try.checked os 8 .any (Rows.signFoundSpec.pre6 enc Try.prog Try.f8 Rows.signFoundRow.domain false) (Rows.signFoundSpec.post enc Try.prog Try.f8 false true false false) := by
  refine returnsInHanded_of_change_sized (C := Try.checked) own started (by kernel_rfl) Try.func8
    (ChangeSpec.witness6 (enc := enc) (C := Try.checked) false ⟨#[], #[.string ByteArray.empty, .string ByteArray.empty, .int .i64 0], []⟩ 8 (by kernel_rfl) (by kernel_rfl) (by kernel_rfl) (by kernel_rfl)) ?_
  intro W base args ds gs before hval0 hW hcnd hsz0 _
  have hsz : (DataW.weightsEach Try.prog (Try.f8.params.toList ++ Rows.signFoundSpec.plain.varTypes Try.prog) (ds ++ gs)).all (· ≤ reachBytes) = true := hsz0
  have hval : ∀ (j : Nat) t v, Try.f8.params[j]? = some t → args[j]? = some v → Value.okWide Try.prog W .any base t v := hval0
  have hW' := hW
  obtain ⟨p, q, hA0, hV, rfl, hfz, hnd⟩ := hW
  have hA : DataW.TrodAll enc Try.prog W 0 (fun _ => true) true Try.f8.params.toList args.toList ds p := hA0
  rw [Try.params8] at hA hval hsz
  obtain ⟨v0, vs0, d0, ds0, p0, q0, hargs, rfl, rfl, h0, r0⟩ := trodAll_cons hA
  obtain ⟨v1, vs1, d1, ds1, p1, q1, rfl, rfl, rfl, h1, r1⟩ := trodAll_cons r0
  obtain ⟨v2, vs2, d2, ds2, p2, q2, rfl, rfl, rfl, h2, r2⟩ := trodAll_cons r1
  obtain ⟨rfl, rfl, rfl⟩ := trodAll_nil r2
  obtain rfl : args = #[v0, v1, v2] := by cases args; simp_all
  obtain ⟨rfl, rfl⟩ := trodVars_none hV
  obtain ⟨a0, rfl, rfl, rfl, y0⟩ := open_string Try.underlying9 (hval 0 9 v0 rfl rfl) h0
  have w0 : a0.size ≤ 140737488351232 := by
    have z := sized_string hsz (j := 0) (t := 9) rfl rfl
    rw [Array.length_toList] at z
    exact z
  obtain ⟨a1, rfl, rfl, rfl, y1⟩ := open_string Try.underlying9 (hval 1 9 v1 rfl rfl) h1
  have w1 : a1.size ≤ 140737488351232 := by
    have z := sized_string hsz (j := 1) (t := 9) rfl rfl
    rw [Array.length_toList] at z
    exact z
  obtain ⟨a2, rfl, rfl, rfl, w2⟩ := open_int Try.underlying3 (hval 2 3 v2 rfl rfl) h2
  clear hA0 hval0 hsz0 hsz
  refine (Go.Proofs.YtkapekndfnefeaaR.is_tells (Go.Proofs.Ytkapekndfnefeaa.F.SignFound_c W a0 a1 a2 w0 w1 w2)).mono fun e W' ⟨he, bel⟩ => ?_
  subst he
  exact ⟨_, rfl, _, _, _, [], _, [], hW', trodAll_mk1 (shut_bool Try.underlying4 _), (trodAll_cons_mk (shut_string Try.underlying9 y0) (trodAll_cons_mk (shut_string Try.underlying9 y1) (trodAll_cons_mk (shut_int Try.underlying3 w2) trodAll_mk0))), rfl, bel.frame _, fun h => by cases h⟩
theorem over : Rows.signFoundRow.holds Try.pinned (OpenSpec.ofChange Rows.signFoundSpec) :=
  OpenClaim.holds_of_wide 8 Try.f8 rfl rfl rfl rfl rfl rfl rfl ⟨rfl, rfl, rfl, rfl, rfl⟩ rfl rfl rfl rfl rfl (by kernel_rfl) Try.func8 (by kernel_rfl)
    (of_decide_eq_true (by kernel_rfl)) (by unfold Func.isWrapper; first | (rw [if_pos (by decide +kernel)]; kernel_rfl) | (rw [if_neg (by decide +kernel)]; exact ⟨rfl, rfl⟩))
    (fun os started H enc _ => lifted os started H enc)
end Go.Proofs.Ytkapekndfnefeaa.signFound
namespace Go.Proofs.Ytkapekndfnefeaa
/-- The row, under a short name, for the claim. -/
theorem signFound_holds : Rows.SignFoundSaid := signFound.over
#print axioms signFound_holds
end Go.Proofs.Ytkapekndfnefeaa
