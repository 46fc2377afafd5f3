/- The row of the law MacChains: for every input the law's call returns true, whatever memory; no condition. Out of the contract MacChains_c. -/
import Derived.Test.YtkglpcajjieblaaSC
import Derived.Test.YtkglpcajjieblaaRows
import Derived.WalkKit
import Derived.ProofKit
import Derived.OpenShut
import Derived.ShutString
import Derived.ChangeOld
import Derived.Below
import Derived.SizedLaws
import Derived.Test.YtkglpcajjieblaaWSized
import Derived.Lib.SmallJoins

-- MacChains
namespace Go.Proofs.Ytkglpcajjieblaa.F
open Go Go.RowKit Go.Proofs.YtkglpcajjieblaaW.PrintWords Go.Proofs.YtkglpcajjieblaaW.PrintLast Go.Proofs.YtkglpcajjieblaaW.PrintMore Go.Proofs.YtkglpcajjieblaaR
attribute [local go_sem] max2_int min2_int max_two min_two
set_option linter.unusedSimpArgs false
set_option linter.unusedVariables false
set_option maxRecDepth 100000
theorem le_sum : ∀ (l : List Nat) (x : Nat), x ∈ l → x ≤ l.sum
  | [], x, h => by simp at h
  | y :: l, x, h => by
    rw [List.sum_cons]
    rcases List.mem_cons.1 h with rfl | h
    · omega
    · have := le_sum l x h; omega
set_option maxHeartbeats 4000000 in
theorem MacChains_c (w : World) (key : ByteArray) (A : Option Addr) (c : Nat) (ps : List ByteArray) (cut : Int) (hk : key.size ≤ 140737488351232) (hr : Kd.C Kd.string w A ps.length ps) (hc : ps.length ≤ c) (hok : ∀ p ∈ ps, p.size ≤ 140737488351232) (hn : (Lit.int .i64 cut).wf = true) :
    Calls Try.prog 6 #[.string key, .slice A ps.length c, .int .i64 cut] w (Tells w (Is (.bool true))) := by
  clear hn
  obtain ⟨b, hb, hsm⟩ := small_c ps hok
  obtain ⟨n, hn⟩ : ∃ n, n = ps.length := ⟨_, rfl⟩
  rw [← hn] at hr hc ⊢
  have hs0 := hsm w A n c hr hn.symm hc
  have HS0 := Lib.hid hs0
  obtain ⟨ks, hks⟩ : ∃ ks, ks = key.size := ⟨_, rfl⟩
  have hks' := hks.symm
  by_cases hgo : b = true ∧ ks ≤ 1000
  · obtain ⟨rfl, hk1⟩ := hgo
    have hsum := hb rfl
    have d1 : decide (1000 < ks) = false := decide_eq_false (by omega)
    have d1' : decide (1000 < (ks : Int)) = false := decide_eq_false (by omega)
    have hps : ∀ p ∈ ps, p.size ≤ 10000000 := fun p hp => by
      have h1 : p.size ≤ (ps.map ByteArray.size).sum := le_sum _ _ (List.mem_map_of_mem hp)
      omega
    have hkb := bytesOf_bytes key
    have hkl : (bytesOf key).length ≤ 10000000 := by rw [bytesOf_length]; omega
    have h1 := fun w' (hg : Grew w w') => chain_c w' (bytesOf key) A n c ps (Kd.C_below hr hg) hn.symm hc (by omega) hkb hkl hps
    have h2 := fun w' (hg : Grew w w') => rchain_c (bytesOf key) hkb hkl n w' A c ps (Kd.C_below hr hg) hn.symm hc (by omega) hps
    obtain ⟨j, hjn, hcut⟩ : ∃ j : Nat, j ≤ n ∧ ((0 ≤ cut ∧ cut ≤ n ∧ cut = j) ∨ ((cut < 0 ∨ (n : Int) < cut) ∧ j = 0)) := by
      by_cases hin : 0 ≤ cut ∧ cut ≤ n
      · exact ⟨cut.toNat, by omega, .inl ⟨hin.1, hin.2, by omega⟩⟩
      · exact ⟨0, by omega, .inr ⟨by omega, rfl⟩⟩
    have hrd := fun w' (hg : Grew w w') => Kd.reads_of_C (enc := Value.string) (d := ByteArray.empty) (h1 := fun _ => rfl) (Kd.C_below hr hg)
    have htl : (ps.take j).length = j := by rw [List.length_take]; omega
    have h3 := fun w' (hg : Grew w w') => chain_c w' (bytesOf key) A j c (ps.take j) (Kd.C_of_reads (h1 := fun _ => rfl) ((hrd w' hg).take_ j hjn)) htl (by omega) (by omega) hkb hkl (fun p hp => hps p (List.mem_of_mem_take hp))
    obtain ⟨i0, hi0⟩ : ∃ i0, Try.prog.info? 9 = some i0 := ⟨_, rfl⟩
    obtain ⟨A2, hsl2, hr2⟩ := print_cut_of (P := Try.prog) Value.string ByteArray.empty 23 9 .i64 (i := _) Try.underlying23 (by rfl) (by rfl) A n c j hjn
    have h4 := fun w' (hg : Grew w w') => chain_c w' (chainL (bytesOf key) (ps.take j)) A2 (n - j) (c - j) (ps.drop j) (Kd.C_of_reads (h1 := fun _ => rfl) (hr2 w' ps hc (hrd w' hg))) (by rw [List.length_drop, ← hn]) (by omega) (by omega) (chainL_bytes hkb _) (chainL_len hkl _) (fun p hp => hps p (List.mem_of_mem_drop hp))
    rw [← chainL_app, List.take_append_drop] at h4
    have h5 : j = 0 → ∀ w', Grew w w' → Calls Try.prog 16 #[.string (strOfNums (chainL (bytesOf key) (ps.take j))), .slice A n c] w' (Tells w' (Is (.string (strOfNums (chainL (bytesOf key) ps))))) := fun hj w' hg => by
      subst hj
      rw [List.take_zero]
      exact chain_c w' (bytesOf key) A n c ps (Kd.C_below hr hg) hn.symm hc (by omega) hkb hkl hps
    obtain ⟨C, hC⟩ : ∃ C, C = strOfNums (chainL (bytesOf key) ps) := ⟨_, rfl⟩
    obtain ⟨D, hD⟩ : ∃ D, D = strOfNums (chainL (bytesOf key) (ps.take j)) := ⟨_, rfl⟩
    simp only [← hC, ← hD, str_bytes] at h1 h2 h3 h4 h5
    have H5 := Lib.hid h5
    obtain ⟨n2, hn2⟩ : ∃ n2, n2 = n - j := ⟨_, rfl⟩
    obtain ⟨c2, hc2⟩ : ∃ c2, c2 = c - j := ⟨_, rfl⟩
    rw [← hn2, ← hc2] at hsl2 h4
    have H1 := Lib.hid h1
    have H2 := Lib.hid h2
    have H3 := Lib.hid h3
    have H4 := Lib.hid h4
    have j1 : (j : Int) ≤ (c : Int) := by omega
    have j2 : (j : Int) ≤ (n : Int) := by omega
    have j3 : (0 : Int) ≤ (j : Int) := by omega
    clear hk hr hb hsm hs0 hsum h1 h2 h3 h4 h5 hC hD hn hks hps hkb hkl hrd htl hr2 hn2 hc2 hi0 hok
    have hcases : (∃ q : Nat, cut = (q : Int) ∧ j = q ∧ decide ((q : Int) < 0) = false ∧ decide ((n : Int) < (q : Int)) = false ∧ ¬ n < q) ∨ (cut < 0 ∧ decide (cut < 0) = true ∧ j = 0) ∨ (∃ q : Nat, cut = (q : Int) ∧ decide ((q : Int) < 0) = false ∧ decide ((n : Int) < (q : Int)) = true ∧ n < q ∧ j = 0) := by
      rcases hcut with ⟨h1, h2, h3⟩ | ⟨h1 | h1, h2⟩
      · exact .inl ⟨j, h3, rfl, decide_eq_false (by omega), decide_eq_false (by omega), by omega⟩
      · exact .inr (.inl ⟨h1, decide_eq_true h1, h2⟩)
      · exact .inr (.inr ⟨cut.toNat, by omega, decide_eq_false (by omega), decide_eq_true (by omega), by omega, h2⟩)
    clear hcut
    rcases hcases with ⟨q, rfl, rfl, c1, c2', c3⟩ | hcases
    · go_enter Try.func6, Try.ntmps6
      go_wp2_with fail
      refine HS0.out.mono ?_
      rintro e w1 ⟨_, rfl, rfl, hg1⟩
      go_wp2_with fail
      refine (H1.out w1 hg1).mono ?_
      rintro e w2 ⟨_, rfl, rfl, hg2⟩
      have hg12 := Grew.trans hg1 hg2
      go_wp2_with fail
      apply region_grew [Is _, Is _, Is _, Is _, Is _, Is _, Is _, Is _, Is _, Is _, Is _, Is _, Is _, Is _, Is _, Is _] [([(7, none)], none), ([(0, none)], none), ([(1, none)], none), ([(29, some 1), (30, some 2)], none), ([(28, some 0), (31, some 3)], none), ([(32, some 4)], none), ([(0, none), (33, some 5)], some (33, true)), ([(1, none), (33, some 5)], some (33, true)), ([(2, none), (33, some 5)], some (33, true)), ([(35, some 7), (36, some 8), (33, some 5)], some (33, true)), ([(34, some 6), (37, some 9), (33, some 5)], some (33, true)), ([(1, none), (33, some 5)], some (33, true)), ([(2, none), (33, some 5)], some (33, true)), ([(39, some 11), (40, some 12), (33, some 5)], some (33, true)), ([(38, some 10), (41, some 13), (33, some 5)], some (33, true)), ([(7, none), (33, some 5)], some (33, true))] [(28, 0), (29, 1), (30, 2), (31, 3), (32, 4), (33, 5), (34, 6), (35, 7), (36, 8), (37, 9), (38, 10), (39, 11), (40, 12), (41, 13), (42, 14), (43, 15)] rfl (by kernel_rfl) (by kernel_rfl) (show Stable Grew _ from ⟨Is.stable _, Is.stable _, Is.stable _, Is.stable _, Is.stable _, Is.stable _, Is.stable _, Is.stable _, Is.stable _, Is.stable _, Is.stable _, Is.stable _, Is.stable _, Is.stable _, Is.stable _, Is.stable _, trivial⟩)
      · show OpsHold _ _ _ _ _ _ _ _ _
        refine ⟨fun a_ wx hR hD K hK => ?_, ?_⟩
        · have hG : Grew w2 wx := (Grew.drew _).trans hR
          simp [Deps, Dep, at_, Is] at hD
          go_simp
          exact hK _ _ (Grew.refl _) rfl
        refine ⟨fun a_ wx hR hD K hK => ?_, ?_⟩
        · have hG : Grew w2 wx := (Grew.drew _).trans hR
          simp [Deps, Dep, at_, Is] at hD
          go_simp
          exact hK _ _ (Grew.refl _) rfl
        refine ⟨fun a_ wx hR hD K hK => ?_, ?_⟩
        · have hG : Grew w2 wx := (Grew.drew _).trans hR
          simp [Deps, Dep, at_, Is] at hD
          go_simp
          exact hK _ _ (Grew.refl _) rfl
        refine ⟨fun a_ wx hR hD K hK => ?_, ?_⟩
        · have hG : Grew w2 wx := (Grew.drew _).trans hR
          simp [Deps, Dep, at_, Is] at hD
          obtain ⟨hd0, hd1⟩ := hD
          go_simp
          have hcn := H2.out wx (Grew.trans hg12 hG)
          with_reducible refine hcn.mono ?_
          clear hcn
          rintro e wy ⟨v, rfl, hv, hg⟩
          exact hK _ _ hg hv
        refine ⟨fun a_ wx hR hD K hK => ?_, ?_⟩
        · have hG : Grew w2 wx := (Grew.drew _).trans hR
          simp [Deps, Dep, at_, Is] at hD
          obtain ⟨hd0, hd1⟩ := hD
          go_simp
          exact hK _ _ (Grew.refl _) rfl
        refine ⟨fun a_ wx hR hD K hK => ?_, ?_⟩
        · have hG : Grew w2 wx := (Grew.drew _).trans hR
          simp [Deps, Dep, at_, Is] at hD
          go_simp
          exact hK _ _ (Grew.refl _) rfl
        refine ⟨fun a_ wx hR hD => ⟨fun hgd K hK => ?_, fun hgd => ?_⟩, ?_⟩
        · have hG : Grew w2 wx := (Grew.drew _).trans hR
          clear hgd
          simp [Deps, Dep, at_, Is] at hD
          obtain ⟨hd0, hd1⟩ := hD
          go_simp
          exact hK _ _ (Grew.refl _) rfl
        · have hG : Grew w2 wx := (Grew.drew _).trans hR
          exfalso
          simp [Deps, Dep, at_, Is] at hD
          simp_all
        refine ⟨fun a_ wx hR hD => ⟨fun hgd K hK => ?_, fun hgd => ?_⟩, ?_⟩
        · have hG : Grew w2 wx := (Grew.drew _).trans hR
          clear hgd
          simp [Deps, Dep, at_, Is] at hD
          obtain ⟨hd0, hd1⟩ := hD
          go_simp
          exact hK _ _ (Grew.refl _) rfl
        · have hG : Grew w2 wx := (Grew.drew _).trans hR
          exfalso
          simp [Deps, Dep, at_, Is] at hD
          simp_all
        refine ⟨fun a_ wx hR hD => ⟨fun hgd K hK => ?_, fun hgd => ?_⟩, ?_⟩
        · have hG : Grew w2 wx := (Grew.drew _).trans hR
          clear hgd
          simp [Deps, Dep, at_, Is] at hD
          obtain ⟨hd0, hd1⟩ := hD
          go_simp
          exact hK _ _ (Grew.refl _) rfl
        · have hG : Grew w2 wx := (Grew.drew _).trans hR
          exfalso
          simp [Deps, Dep, at_, Is] at hD
          simp_all
        refine ⟨fun a_ wx hR hD => ⟨fun hgd K hK => ?_, fun hgd => ?_⟩, ?_⟩
        · have hG : Grew w2 wx := (Grew.drew _).trans hR
          clear hgd
          simp [Deps, Dep, at_, Is] at hD
          obtain ⟨hd0, hd1, hd2⟩ := hD
          go_simp
          exact hK _ _ (Grew.refl _) rfl
        · have hG : Grew w2 wx := (Grew.drew _).trans hR
          exfalso
          simp [Deps, Dep, at_, Is] at hD
          simp_all
        refine ⟨fun a_ wx hR hD => ⟨fun hgd K hK => ?_, fun hgd => ?_⟩, ?_⟩
        · have hG : Grew w2 wx := (Grew.drew _).trans hR
          clear hgd
          simp [Deps, Dep, at_, Is] at hD
          obtain ⟨hd0, hd1, hd2⟩ := hD
          go_simp
          have hcn := H3.out wx (Grew.trans hg12 hG)
          with_reducible refine hcn.mono ?_
          clear hcn
          rintro e wy ⟨v, rfl, hv, hg⟩
          exact hK _ _ hg hv
        · have hG : Grew w2 wx := (Grew.drew _).trans hR
          exfalso
          simp [Deps, Dep, at_, Is] at hD
          simp_all
        refine ⟨fun a_ wx hR hD => ⟨fun hgd K hK => ?_, fun hgd => ?_⟩, ?_⟩
        · have hG : Grew w2 wx := (Grew.drew _).trans hR
          clear hgd
          simp [Deps, Dep, at_, Is] at hD
          obtain ⟨hd0, hd1⟩ := hD
          go_simp
          exact hK _ _ (Grew.refl _) rfl
        · have hG : Grew w2 wx := (Grew.drew _).trans hR
          exfalso
          simp [Deps, Dep, at_, Is] at hD
          simp_all
        refine ⟨fun a_ wx hR hD => ⟨fun hgd K hK => ?_, fun hgd => ?_⟩, ?_⟩
        · have hG : Grew w2 wx := (Grew.drew _).trans hR
          clear hgd
          simp [Deps, Dep, at_, Is] at hD
          obtain ⟨hd0, hd1⟩ := hD
          go_simp
          exact hK _ _ (Grew.refl _) rfl
        · have hG : Grew w2 wx := (Grew.drew _).trans hR
          exfalso
          simp [Deps, Dep, at_, Is] at hD
          simp_all
        refine ⟨fun a_ wx hR hD => ⟨fun hgd K hK => ?_, fun hgd => ?_⟩, ?_⟩
        · have hG : Grew w2 wx := (Grew.drew _).trans hR
          clear hgd
          simp [Deps, Dep, at_, Is] at hD
          obtain ⟨hd0, hd1, hd2⟩ := hD
          go_simp
          exact hK _ _ (Grew.refl _) rfl
        · have hG : Grew w2 wx := (Grew.drew _).trans hR
          exfalso
          simp [Deps, Dep, at_, Is] at hD
          simp_all
        refine ⟨fun a_ wx hR hD => ⟨fun hgd K hK => ?_, fun hgd => ?_⟩, ?_⟩
        · have hG : Grew w2 wx := (Grew.drew _).trans hR
          clear hgd
          simp [Deps, Dep, at_, Is] at hD
          obtain ⟨hd0, hd1, hd2⟩ := hD
          go_simp
          have hcn := H4.out wx (Grew.trans hg12 hG)
          with_reducible refine hcn.mono ?_
          clear hcn
          rintro e wy ⟨v, rfl, hv, hg⟩
          exact hK _ _ hg hv
        · have hG : Grew w2 wx := (Grew.drew _).trans hR
          exfalso
          simp [Deps, Dep, at_, Is] at hD
          simp_all
        refine ⟨fun a_ wx hR hD => ⟨fun hgd K hK => ?_, fun hgd => ?_⟩, ?_⟩
        · have hG : Grew w2 wx := (Grew.drew _).trans hR
          clear hgd
          simp [Deps, Dep, at_, Is] at hD
          obtain ⟨hd0, hd1⟩ := hD
          go_simp
          exact hK _ _ (Grew.refl _) rfl
        · have hG : Grew w2 wx := (Grew.drew _).trans hR
          exfalso
          simp [Deps, Dep, at_, Is] at hD
          simp_all
        trivial
      · show EndHold _ _ _ _ _ _ _
        refine end_all (xs := [_, _, _, _, _, _, _, _, _, _, _, _, _, _, _, _]) ⟨rfl, rfl, rfl, rfl, rfl, rfl, rfl, rfl, rfl, rfl, rfl, rfl, rfl, rfl, rfl, rfl, trivial⟩ ?_
        rintro w3 hR1 -
        refine ⟨?_⟩
        have hG_w3 : Grew w2 w3 := (Grew.drew _).trans hR1
        clear hR1
        simp only [Act.put, List.setIfInBounds_toArray, List.set_cons_succ, List.set_cons_zero, dropN, putEach]
        go_wp2_with fail
        refine (lives_c w3).mono ?_
        rintro e w4 ⟨_, rfl, rfl, hg4⟩
        go_wp2_with fail
        go_ret
        exact ⟨_, rfl, rfl, Grew.trans (Grew.trans hg12 hG_w3) hg4⟩
    · rcases hcases with ⟨c0, c1, rfl⟩ | ⟨q, rfl, c1, c2', c3, rfl⟩
      all_goals
        go_enter Try.func6, Try.ntmps6
        go_wp2_with fail
        refine HS0.out.mono ?_
        rintro e w1 ⟨_, rfl, rfl, hg1⟩
        go_wp2_with fail
        refine (H1.out w1 hg1).mono ?_
        rintro e w2 ⟨_, rfl, rfl, hg2⟩
        have hg12 := Grew.trans hg1 hg2
        go_wp2_with fail
        apply region_grew [Is _, Is _, Is _, Is _, Is _, Is _, Is _, Is _, Is _, Is _, Is _, Is _, Is _, Is _, Is _, Is _] [([(7, none)], none), ([(0, none)], none), ([(1, none)], none), ([(29, some 1), (30, some 2)], none), ([(28, some 0), (31, some 3)], none), ([(32, some 4)], none), ([(0, none), (33, some 5)], some (33, true)), ([(1, none), (33, some 5)], some (33, true)), ([(2, none), (33, some 5)], some (33, true)), ([(35, some 7), (36, some 8), (33, some 5)], some (33, true)), ([(34, some 6), (37, some 9), (33, some 5)], some (33, true)), ([(1, none), (33, some 5)], some (33, true)), ([(2, none), (33, some 5)], some (33, true)), ([(39, some 11), (40, some 12), (33, some 5)], some (33, true)), ([(38, some 10), (41, some 13), (33, some 5)], some (33, true)), ([(7, none), (33, some 5)], some (33, true))] [(28, 0), (29, 1), (30, 2), (31, 3), (32, 4), (33, 5), (34, 6), (35, 7), (36, 8), (37, 9), (38, 10), (39, 11), (40, 12), (41, 13), (42, 14), (43, 15)] rfl (by kernel_rfl) (by kernel_rfl) (show Stable Grew _ from ⟨Is.stable _, Is.stable _, Is.stable _, Is.stable _, Is.stable _, Is.stable _, Is.stable _, Is.stable _, Is.stable _, Is.stable _, Is.stable _, Is.stable _, Is.stable _, Is.stable _, Is.stable _, Is.stable _, trivial⟩)
        · show OpsHold _ _ _ _ _ _ _ _ _
          refine ⟨fun a_ wx hR hD K hK => ?_, ?_⟩
          · have hG : Grew w2 wx := (Grew.drew _).trans hR
            simp [Deps, Dep, at_, Is] at hD
            go_simp
            exact hK _ _ (Grew.refl _) rfl
          refine ⟨fun a_ wx hR hD K hK => ?_, ?_⟩
          · have hG : Grew w2 wx := (Grew.drew _).trans hR
            simp [Deps, Dep, at_, Is] at hD
            go_simp
            exact hK _ _ (Grew.refl _) rfl
          refine ⟨fun a_ wx hR hD K hK => ?_, ?_⟩
          · have hG : Grew w2 wx := (Grew.drew _).trans hR
            simp [Deps, Dep, at_, Is] at hD
            go_simp
            exact hK _ _ (Grew.refl _) rfl
          refine ⟨fun a_ wx hR hD K hK => ?_, ?_⟩
          · have hG : Grew w2 wx := (Grew.drew _).trans hR
            simp [Deps, Dep, at_, Is] at hD
            obtain ⟨hd0, hd1⟩ := hD
            go_simp
            have hcn := H2.out wx (Grew.trans hg12 hG)
            with_reducible refine hcn.mono ?_
            clear hcn
            rintro e wy ⟨v, rfl, hv, hg⟩
            exact hK _ _ hg hv
          refine ⟨fun a_ wx hR hD K hK => ?_, ?_⟩
          · have hG : Grew w2 wx := (Grew.drew _).trans hR
            simp [Deps, Dep, at_, Is] at hD
            obtain ⟨hd0, hd1⟩ := hD
            go_simp
            exact hK _ _ (Grew.refl _) rfl
          refine ⟨fun a_ wx hR hD K hK => ?_, ?_⟩
          · have hG : Grew w2 wx := (Grew.drew _).trans hR
            simp [Deps, Dep, at_, Is] at hD
            go_simp
            exact hK _ _ (Grew.refl _) rfl
          refine ⟨fun a_ wx hR hD => ⟨fun hgd K hK => ?_, fun hgd => ?_⟩, ?_⟩
          · have hG : Grew w2 wx := (Grew.drew _).trans hR
            clear hgd
            simp [Deps, Dep, at_, Is] at hD
            obtain ⟨hd0, hd1⟩ := hD
            go_simp
            exact hK _ _ (Grew.refl _) rfl
          · have hG : Grew w2 wx := (Grew.drew _).trans hR
            exfalso
            simp [Deps, Dep, at_, Is] at hD
            simp_all
          refine ⟨fun a_ wx hR hD => ⟨fun hgd K hK => ?_, fun hgd => ?_⟩, ?_⟩
          · have hG : Grew w2 wx := (Grew.drew _).trans hR
            clear hgd
            simp [Deps, Dep, at_, Is] at hD
            obtain ⟨hd0, hd1⟩ := hD
            go_simp
            exact hK _ _ (Grew.refl _) rfl
          · have hG : Grew w2 wx := (Grew.drew _).trans hR
            exfalso
            simp [Deps, Dep, at_, Is] at hD
            simp_all
          refine ⟨fun a_ wx hR hD => ⟨fun hgd K hK => ?_, fun hgd => ?_⟩, ?_⟩
          · have hG : Grew w2 wx := (Grew.drew _).trans hR
            clear hgd
            simp [Deps, Dep, at_, Is] at hD
            obtain ⟨hd0, hd1⟩ := hD
            go_simp
            exact hK _ _ (Grew.refl _) rfl
          · have hG : Grew w2 wx := (Grew.drew _).trans hR
            exfalso
            simp [Deps, Dep, at_, Is] at hD
            simp_all
          refine ⟨fun a_ wx hR hD => ⟨fun hgd K hK => ?_, fun hgd => ?_⟩, ?_⟩
          · have hG : Grew w2 wx := (Grew.drew _).trans hR
            clear hgd
            simp [Deps, Dep, at_, Is] at hD
            obtain ⟨hd0, hd1, hd2⟩ := hD
            go_simp
            exact hK _ _ (Grew.refl _) rfl
          · have hG : Grew w2 wx := (Grew.drew _).trans hR
            exfalso
            simp [Deps, Dep, at_, Is] at hD
            simp_all
          refine ⟨fun a_ wx hR hD => ⟨fun hgd K hK => ?_, fun hgd => ?_⟩, ?_⟩
          · have hG : Grew w2 wx := (Grew.drew _).trans hR
            clear hgd
            simp [Deps, Dep, at_, Is] at hD
            obtain ⟨hd0, hd1, hd2⟩ := hD
            go_simp
            have hcn := H3.out wx (Grew.trans hg12 hG)
            with_reducible refine hcn.mono ?_
            clear hcn
            rintro e wy ⟨v, rfl, hv, hg⟩
            exact hK _ _ hg hv
          · have hG : Grew w2 wx := (Grew.drew _).trans hR
            exfalso
            simp [Deps, Dep, at_, Is] at hD
            simp_all
          refine ⟨fun a_ wx hR hD => ⟨fun hgd K hK => ?_, fun hgd => ?_⟩, ?_⟩
          · have hG : Grew w2 wx := (Grew.drew _).trans hR
            clear hgd
            simp [Deps, Dep, at_, Is] at hD
            obtain ⟨hd0, hd1⟩ := hD
            go_simp
            exact hK _ _ (Grew.refl _) rfl
          · have hG : Grew w2 wx := (Grew.drew _).trans hR
            exfalso
            simp [Deps, Dep, at_, Is] at hD
            simp_all
          refine ⟨fun a_ wx hR hD => ⟨fun hgd K hK => ?_, fun hgd => ?_⟩, ?_⟩
          · have hG : Grew w2 wx := (Grew.drew _).trans hR
            clear hgd
            simp [Deps, Dep, at_, Is] at hD
            obtain ⟨hd0, hd1⟩ := hD
            go_simp
            exact hK _ _ (Grew.refl _) rfl
          · have hG : Grew w2 wx := (Grew.drew _).trans hR
            exfalso
            simp [Deps, Dep, at_, Is] at hD
            simp_all
          refine ⟨fun a_ wx hR hD => ⟨fun hgd K hK => ?_, fun hgd => ?_⟩, ?_⟩
          · have hG : Grew w2 wx := (Grew.drew _).trans hR
            clear hgd
            simp [Deps, Dep, at_, Is] at hD
            obtain ⟨hd0, hd1, hd2⟩ := hD
            go_simp
            exact hK _ _ (Grew.refl _) rfl
          · have hG : Grew w2 wx := (Grew.drew _).trans hR
            exfalso
            simp [Deps, Dep, at_, Is] at hD
            simp_all
          refine ⟨fun a_ wx hR hD => ⟨fun hgd K hK => ?_, fun hgd => ?_⟩, ?_⟩
          · have hG : Grew w2 wx := (Grew.drew _).trans hR
            clear hgd
            simp [Deps, Dep, at_, Is] at hD
            obtain ⟨hd0, hd1, hd2⟩ := hD
            go_simp
            have hcn := H5.out (by simp) wx (Grew.trans hg12 hG)
            with_reducible refine hcn.mono ?_
            clear hcn
            rintro e wy ⟨v, rfl, hv, hg⟩
            exact hK _ _ hg hv
          · have hG : Grew w2 wx := (Grew.drew _).trans hR
            exfalso
            simp [Deps, Dep, at_, Is] at hD
            simp_all
          refine ⟨fun a_ wx hR hD => ⟨fun hgd K hK => ?_, fun hgd => ?_⟩, ?_⟩
          · have hG : Grew w2 wx := (Grew.drew _).trans hR
            clear hgd
            simp [Deps, Dep, at_, Is] at hD
            obtain ⟨hd0, hd1⟩ := hD
            go_simp
            exact hK _ _ (Grew.refl _) rfl
          · have hG : Grew w2 wx := (Grew.drew _).trans hR
            exfalso
            simp [Deps, Dep, at_, Is] at hD
            simp_all
          trivial
        · show EndHold _ _ _ _ _ _ _
          refine end_all (xs := [_, _, _, _, _, _, _, _, _, _, _, _, _, _, _, _]) ⟨rfl, rfl, rfl, rfl, rfl, rfl, rfl, rfl, rfl, rfl, rfl, rfl, rfl, rfl, rfl, rfl, trivial⟩ ?_
          rintro w3 hR1 -
          refine ⟨?_⟩
          have hG_w3 : Grew w2 w3 := (Grew.drew _).trans hR1
          clear hR1
          simp only [Act.put, List.setIfInBounds_toArray, List.set_cons_succ, List.set_cons_zero, dropN, putEach]
          go_wp2_with fail
          refine (lives_c w3).mono ?_
          rintro e w4 ⟨_, rfl, rfl, hg4⟩
          go_wp2_with fail
          go_ret
          exact ⟨_, rfl, rfl, Grew.trans (Grew.trans hg12 hG_w3) hg4⟩
  · have hgo2 : b = false ∨ (b = true ∧ decide (1000 < ks) = true ∧ decide (1000 < (ks : Int)) = true ∧ 1000 < ks) := by
      cases b
      · exact .inl rfl
      · have : 1000 < ks := by simp at hgo; omega
        exact .inr ⟨rfl, decide_eq_true this, decide_eq_true (by omega), this⟩
    clear hk hr hb hsm hs0 hgo hn hks hok
    rcases hgo2 with rfl | ⟨rfl, d1, d2, d3⟩
    all_goals
      go_enter Try.func6, Try.ntmps6
      go_wp2_with fail
      refine HS0.out.mono ?_
      rintro e w1 ⟨_, rfl, rfl, hg1⟩
      go_wp2_with fail
      refine (lives_c w1).mono ?_
      rintro e w2 ⟨_, rfl, rfl, hg2⟩
      go_wp2_with fail
      go_ret
      exact ⟨_, rfl, rfl, Grew.trans hg1 hg2⟩
end Go.Proofs.Ytkglpcajjieblaa.F

-- RowMacChains
namespace Go.Proofs.Ytkglpcajjieblaa.macChains
open Go.ChangeShapes Go.WideShapes Go.ChangeAt Go.RowKit
open Go.ChangeMaps (open_string shut_string)
set_option linter.unusedVariables false
set_option linter.unusedSimpArgs false
theorem own : ownKnob Try.prog.godebug = none := by kernel_rfl
theorem laidOut : laidOutB Try.prog = true := by kernel_rfl
set_option maxRecDepth 100000 in
theorem lifted (os : Os) (started : os.Started) (H : Type) (enc : TypeId × Value → H) :
    ReturnsInHanded {} Try.checked os 6 .any (Rows.macChainsSpec.pre6 enc Try.prog Try.f6 Rows.macChainsRow.domain false) (Rows.macChainsSpec.post enc Try.prog Try.f6 false true false false) := by
  refine returnsInHanded_of_change_sized (C := Try.checked) own started (by kernel_rfl) Try.func6
    (ChangeSpec.witness6 (enc := enc) (C := Try.checked) false ⟨#[], #[.string ByteArray.empty, .slice none 0 0, .int .i64 0], []⟩ 8 (by kernel_rfl) (by kernel_rfl) (by kernel_rfl) (by kernel_rfl)) ?_
  intro W base args ds gs before hval0 hW hcnd hsz0 _
  have hsz : (DataW.weightsEach Try.prog (Try.f6.params.toList ++ Rows.macChainsSpec.plain.varTypes Try.prog) (ds ++ gs)).all (· ≤ reachBytes) = true := hsz0
  have hval : ∀ (j : Nat) t v, Try.f6.params[j]? = some t → args[j]? = some v → Value.okWide Try.prog W .any base t v := hval0
  have hW' := hW
  obtain ⟨p, q, hA0, hV, rfl, hfz, hnd⟩ := hW
  have hA : DataW.TrodAll enc Try.prog W 0 (fun _ => true) true Try.f6.params.toList args.toList ds p := hA0
  rw [Try.params6] at hA hval hsz
  obtain ⟨v0, vs0, d0, ds0, p0, q0, hargs, rfl, rfl, h0, r0⟩ := trodAll_cons hA
  obtain ⟨v1, vs1, d1, ds1, p1, q1, rfl, rfl, rfl, h1, r1⟩ := trodAll_cons r0
  obtain ⟨v2, vs2, d2, ds2, p2, q2, rfl, rfl, rfl, h2, r2⟩ := trodAll_cons r1
  obtain ⟨rfl, rfl, rfl⟩ := trodAll_nil r2
  obtain rfl : args = #[v0, v1, v2] := by cases args; simp_all
  obtain ⟨rfl, rfl⟩ := trodVars_none hV
  obtain ⟨a0, rfl, rfl, rfl, y0⟩ := open_string Try.underlying9 (hval 0 9 v0 rfl rfl) h0
  have w0 : a0.size ≤ 140737488351232 := by
    have z := sized_string hsz (j := 0) (t := 9) rfl rfl
    rw [Array.length_toList] at z
    exact z
  obtain ⟨a1, len1, cap1, rfl⟩ := okWide_slice Try.underlying23 (hval 1 23 v1 rfl rfl)
  have k1 := h1
  have lt1 : ∀ x ∈ p1, x.block < W.heap.size := by obtain ⟨m, hm⟩ := k1; exact DataW.trod_lt m _ _ _ hm
  obtain ⟨x1, ⟨A1, cp1, e1, hc1, hC1⟩, ok1⟩ := Go.Proofs.YtkglpcajjieblaaO.opensW_arg (d := (Go.Proofs.YtkglpcajjieblaaW.PrintWords.Kd.slice 9 Go.Proofs.YtkglpcajjieblaaW.PrintWords.Kd.string)) (Go.Proofs.YtkglpcajjieblaaO.opensW_slice Try.underlying23 (Go.Proofs.YtkglpcajjieblaaO.opensW_string Try.underlying9) (by kernel_rfl)) hsz (j := 1) (t := 23) rfl rfl h1
  obtain ⟨rfl, rfl, rfl⟩ := Value.slice.inj (List.cons.inj e1).1
  obtain ⟨a2, rfl, rfl, rfl, w2⟩ := open_int Try.underlying3 (hval 2 3 v2 rfl rfl) h2
  clear hA0 hval0 hsz0 hsz
  refine (Go.Proofs.YtkglpcajjieblaaR.is_tells (Go.Proofs.Ytkglpcajjieblaa.F.MacChains_c W a0 a1 cap1 x1 a2 w0 hC1 hc1 ok1 w2)).mono fun e W' ⟨he, bel⟩ => ?_
  subst he
  exact ⟨_, rfl, _, _, _, [], _, [], hW', trodAll_mk1 (shut_bool Try.underlying4 _), (trodAll_cons_mk (shut_string Try.underlying9 y0) (trodAll_cons_mk (Below.trod laidOut (by kernel_rfl) (of_decide_eq_true (by kernel_rfl)) k1 bel lt1) (trodAll_cons_mk (shut_int Try.underlying3 w2) trodAll_mk0))), rfl, bel.frame _, fun h => by cases h⟩
theorem over : Rows.macChainsRow.holds Try.pinned (OpenSpec.ofChange Rows.macChainsSpec) :=
  OpenClaim.holds_of_wide 6 Try.f6 rfl rfl rfl rfl rfl rfl rfl ⟨rfl, rfl, rfl, rfl, rfl⟩ rfl rfl rfl rfl rfl (by kernel_rfl) Try.func6 (by kernel_rfl)
    (of_decide_eq_true (by kernel_rfl)) (by unfold Func.isWrapper; first | (rw [if_pos (by decide +kernel)]; kernel_rfl) | (rw [if_neg (by decide +kernel)]; exact ⟨rfl, rfl⟩))
    (fun os started H enc _ => lifted os started H enc)
end Go.Proofs.Ytkglpcajjieblaa.macChains
namespace Go.Proofs.Ytkglpcajjieblaa
/-- The row, under a short name, for the claim. -/
theorem macChains_holds : Rows.MacChainsSaid := macChains.over
#print axioms macChains_holds
end Go.Proofs.Ytkglpcajjieblaa
