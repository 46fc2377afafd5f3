/- The row of the law DeltaBack: for every input the law's call returns true, whatever memory; no condition. Out of the contract DeltaBack_c. -/
import Derived.Test.YtimcafohmahapaaSD
import Derived.SizedLaws
import Derived.ChangeSlices
import Derived.Test.YtimcafohmahapaaVArr
import Derived.WideKeyArr2
import Derived.WalkKit
import Derived.ProofKit
import Derived.OpenShut
import Derived.Test.YtimcafohmahapaaRows
import Derived.ShutString
import Derived.ChangeOld
import Derived.Below
import Derived.Lib.SmallJoins

-- DeltaBack
namespace Go.Proofs.Ytimcafohmahapaa.F
open Go Go.RowKit Go.Proofs.YtimcafohmahapaaW.PrintWords Go.Proofs.YtimcafohmahapaaW.PrintLast Go.Proofs.YtimcafohmahapaaW.PrintMore Go.Proofs.YtimcafohmahapaaM Go.Proofs.YtimcafohmahapaaR
attribute [local go_sem] max2_int min2_int max_two min_two
set_option linter.unusedSimpArgs false
set_option linter.unusedVariables false
set_option maxRecDepth 100000
theorem blocks_okB (t : ByteArray) (s : Nat) (h1 : 1 ≤ s) (h2 : s ≤ 128) (ht : t.size ≤ 1024) : sign_Blocks.f (cntT t s + 2) t (s : Int) = some (blksT t s (cntT t s), 0) := by
  have hd : ¬ (decide ((s : Int) > 128) = true) := by simp; omega
  unfold sign_Blocks.f
  rw [if_neg (by omega), sign_Blocks.j0, if_neg hd, if_neg (by omega)]
  have h := sign_l0 t s (by omega) (by omega) (by omega) (cntT t s) 0 (cntT t s + 1) (by omega) (by omega) (by omega)
  rw [Nat.zero_mul, Nat.zero_min, ByteArray.extract_zero_size] at h
  exact h
set_option maxHeartbeats 8000000 in
theorem DeltaBack_c (w : World) (key b t : ByteArray) (size : Int) {Q0 Q3 : Prop} (ok0 : Q0) (ok1 : b.size ≤ 140737488351232) (ok2 : t.size ≤ 140737488351232) (ok3 : Q3) :
    Calls Try.prog 7 #[.string key, .agg #[.string b, .string t], .int .i64 size] w (Tells w (Is (.bool true))) := by
  clear ok0 ok1 ok2 ok3
  obtain ⟨W1, hW1⟩ : ∃ W1, W1 = w.alloc (.cells #[.string b, .string t] 49) := ⟨_, rfl⟩
  have hg1 : Grew w W1 := by rw [hW1]; exact Grew.alloc _ _
  have HG1 := Lib.hid hg1
  have hbk : Blk W1 w.heap.size 49 [.string b, .string t] := by rw [hW1]; exact Blk.new _ _ _
  have HB := Lib.hid (fun wx (h : Grew W1 wx) => And.intro ((hbk.grew h).at_ 0) ((hbk.grew h).at_ 1))
  simp only [List.getElem?_cons_zero, List.getElem?_cons_succ] at HB
  have HW1 := Lib.hid hW1
  clear hg1 hbk hW1
  obtain ⟨ks, hks⟩ : ∃ ks, key.size = ks := ⟨_, rfl⟩
  obtain ⟨B, hB⟩ : ∃ B, b.size = B := ⟨_, rfl⟩
  obtain ⟨T, hT⟩ : ∃ T, t.size = T := ⟨_, rfl⟩
  by_cases h1 : 100 < ks
  · have d1 : decide (100 < (ks : Int)) = true := decide_eq_true (by omega)
    have d1n : decide (100 < ks) = true := decide_eq_true h1
    go_enter Try.func7, Try.ntmps7
    go_wp2_with fail
    rw [← HW1.out]
    apply region_grew [Is _, Is _, Is _, Is _, Is _] [([(4, none)], none), ([(18, some 0)], none), ([(4, none)], none), ([(20, some 2)], none), ([(19, some 1)], none)] [(7, 4), (18, 0), (19, 1), (20, 2), (21, 3)] rfl (by kernel_rfl) (by kernel_rfl) (show Stable Grew _ from ⟨Is.stable _, Is.stable _, Is.stable _, Is.stable _, Is.stable _, trivial⟩)
    · show OpsHold _ _ _ _ _ _ _ _ _
      refine ⟨fun a_ wx hR hD K hK => ?_, ?_⟩
      · have hG : Grew W1 wx := (Grew.drew _).trans hR
        simp [Deps, Dep, at_, Is] at hD
        go_simp
        exact hK _ _ (Grew.refl _) rfl
      refine ⟨fun a_ wx hR hD K hK => ?_, ?_⟩
      · have hG : Grew W1 wx := (Grew.drew _).trans hR
        simp [Deps, Dep, at_, Is] at hD
        obtain ⟨e0, e1⟩ := HB.out wx hG
        go_simp
        exact hK _ _ (Grew.refl _) rfl
      refine ⟨fun a_ wx hR hD K hK => ?_, ?_⟩
      · have hG : Grew W1 wx := (Grew.drew _).trans hR
        simp [Deps, Dep, at_, Is] at hD
        go_simp
        exact hK _ _ (Grew.refl _) rfl
      refine ⟨fun a_ wx hR hD K hK => ?_, ?_⟩
      · have hG : Grew W1 wx := (Grew.drew _).trans hR
        simp [Deps, Dep, at_, Is] at hD
        obtain ⟨e0, e1⟩ := HB.out wx hG
        go_simp
        exact hK _ _ (Grew.refl _) rfl
      refine ⟨fun a_ wx hR hD K hK => ?_, ?_⟩
      · have hG : Grew W1 wx := (Grew.drew _).trans hR
        simp [Deps, Dep, at_, Is] at hD
        go_simp
        exact hK _ _ (Grew.refl _) rfl
      trivial
    · show EndHold _ _ _ _ _ _ _
      refine end_all (xs := [_, _, _, _, _]) ⟨rfl, rfl, rfl, rfl, rfl, trivial⟩ ?_
      rintro w2 hR1 -
      refine ⟨?_⟩
      have hG_w2 : Grew W1 w2 := (Grew.drew _).trans hR1
      clear hR1
      simp only [Act.put, List.setIfInBounds_toArray, List.set_cons_succ, List.set_cons_zero, dropN, putEach]
      go_wp2_with fail
      refine (lives_c w2).mono ?_
      rintro e w3 ⟨_, rfl, rfl, hg3⟩
      go_wp2_with fail
      go_ret
      exact ⟨_, rfl, rfl, Grew.trans HG1.out (Grew.trans hG_w2 hg3)⟩
  have d1 : decide (100 < (ks : Int)) = false := decide_eq_false (by omega)
  have d1n : decide (100 < ks) = false := decide_eq_false h1
  by_cases h2 : 60 < B
  · have d2 : decide (60 < (B : Int)) = true := decide_eq_true (by omega)
    have d2n : decide (60 < B) = true := decide_eq_true h2
    go_enter Try.func7, Try.ntmps7
    go_wp2_with fail
    rw [← HW1.out]
    apply region_grew [Is _, Is _, Is _, Is _, Is _] [([(4, none)], none), ([(18, some 0)], none), ([(4, none)], none), ([(20, some 2)], none), ([(19, some 1)], none)] [(7, 4), (18, 0), (19, 1), (20, 2), (21, 3)] rfl (by kernel_rfl) (by kernel_rfl) (show Stable Grew _ from ⟨Is.stable _, Is.stable _, Is.stable _, Is.stable _, Is.stable _, trivial⟩)
    · show OpsHold _ _ _ _ _ _ _ _ _
      refine ⟨fun a_ wx hR hD K hK => ?_, ?_⟩
      · have hG : Grew W1 wx := (Grew.drew _).trans hR
        simp [Deps, Dep, at_, Is] at hD
        go_simp
        exact hK _ _ (Grew.refl _) rfl
      refine ⟨fun a_ wx hR hD K hK => ?_, ?_⟩
      · have hG : Grew W1 wx := (Grew.drew _).trans hR
        simp [Deps, Dep, at_, Is] at hD
        obtain ⟨e0, e1⟩ := HB.out wx hG
        go_simp
        exact hK _ _ (Grew.refl _) rfl
      refine ⟨fun a_ wx hR hD K hK => ?_, ?_⟩
      · have hG : Grew W1 wx := (Grew.drew _).trans hR
        simp [Deps, Dep, at_, Is] at hD
        go_simp
        exact hK _ _ (Grew.refl _) rfl
      refine ⟨fun a_ wx hR hD K hK => ?_, ?_⟩
      · have hG : Grew W1 wx := (Grew.drew _).trans hR
        simp [Deps, Dep, at_, Is] at hD
        obtain ⟨e0, e1⟩ := HB.out wx hG
        go_simp
        exact hK _ _ (Grew.refl _) rfl
      refine ⟨fun a_ wx hR hD K hK => ?_, ?_⟩
      · have hG : Grew W1 wx := (Grew.drew _).trans hR
        simp [Deps, Dep, at_, Is] at hD
        go_simp
        exact hK _ _ (Grew.refl _) rfl
      trivial
    · show EndHold _ _ _ _ _ _ _
      refine end_all (xs := [_, _, _, _, _]) ⟨rfl, rfl, rfl, rfl, rfl, trivial⟩ ?_
      rintro w2 hR1 -
      refine ⟨?_⟩
      have hG_w2 : Grew W1 w2 := (Grew.drew _).trans hR1
      clear hR1
      simp only [Act.put, List.setIfInBounds_toArray, List.set_cons_succ, List.set_cons_zero, dropN, putEach]
      go_wp2_with fail
      refine (lives_c w2).mono ?_
      rintro e w3 ⟨_, rfl, rfl, hg3⟩
      go_wp2_with fail
      go_ret
      exact ⟨_, rfl, rfl, Grew.trans HG1.out (Grew.trans hG_w2 hg3)⟩
  have d2 : decide (60 < (B : Int)) = false := decide_eq_false (by omega)
  have d2n : decide (60 < B) = false := decide_eq_false h2
  by_cases h3 : 60 < T
  · have d3 : decide (60 < (T : Int)) = true := decide_eq_true (by omega)
    have d3n : decide (60 < T) = true := decide_eq_true h3
    go_enter Try.func7, Try.ntmps7
    go_wp2_with fail
    rw [← HW1.out]
    apply region_grew [Is _, Is _, Is _, Is _, Is _] [([(4, none)], none), ([(18, some 0)], none), ([(4, none)], none), ([(20, some 2)], none), ([(19, some 1)], none)] [(7, 4), (18, 0), (19, 1), (20, 2), (21, 3)] rfl (by kernel_rfl) (by kernel_rfl) (show Stable Grew _ from ⟨Is.stable _, Is.stable _, Is.stable _, Is.stable _, Is.stable _, trivial⟩)
    · show OpsHold _ _ _ _ _ _ _ _ _
      refine ⟨fun a_ wx hR hD K hK => ?_, ?_⟩
      · have hG : Grew W1 wx := (Grew.drew _).trans hR
        simp [Deps, Dep, at_, Is] at hD
        go_simp
        exact hK _ _ (Grew.refl _) rfl
      refine ⟨fun a_ wx hR hD K hK => ?_, ?_⟩
      · have hG : Grew W1 wx := (Grew.drew _).trans hR
        simp [Deps, Dep, at_, Is] at hD
        obtain ⟨e0, e1⟩ := HB.out wx hG
        go_simp
        exact hK _ _ (Grew.refl _) rfl
      refine ⟨fun a_ wx hR hD K hK => ?_, ?_⟩
      · have hG : Grew W1 wx := (Grew.drew _).trans hR
        simp [Deps, Dep, at_, Is] at hD
        go_simp
        exact hK _ _ (Grew.refl _) rfl
      refine ⟨fun a_ wx hR hD K hK => ?_, ?_⟩
      · have hG : Grew W1 wx := (Grew.drew _).trans hR
        simp [Deps, Dep, at_, Is] at hD
        obtain ⟨e0, e1⟩ := HB.out wx hG
        go_simp
        exact hK _ _ (Grew.refl _) rfl
      refine ⟨fun a_ wx hR hD K hK => ?_, ?_⟩
      · have hG : Grew W1 wx := (Grew.drew _).trans hR
        simp [Deps, Dep, at_, Is] at hD
        go_simp
        exact hK _ _ (Grew.refl _) rfl
      trivial
    · show EndHold _ _ _ _ _ _ _
      refine end_all (xs := [_, _, _, _, _]) ⟨rfl, rfl, rfl, rfl, rfl, trivial⟩ ?_
      rintro w2 hR1 -
      refine ⟨?_⟩
      have hG_w2 : Grew W1 w2 := (Grew.drew _).trans hR1
      clear hR1
      simp only [Act.put, List.setIfInBounds_toArray, List.set_cons_succ, List.set_cons_zero, dropN, putEach]
      go_wp2_with fail
      refine (lives_c w2).mono ?_
      rintro e w3 ⟨_, rfl, rfl, hg3⟩
      go_wp2_with fail
      go_ret
      exact ⟨_, rfl, rfl, Grew.trans HG1.out (Grew.trans hG_w2 hg3)⟩
  have d3 : decide (60 < (T : Int)) = false := decide_eq_false (by omega)
  have d3n : decide (60 < T) = false := decide_eq_false h3
  by_cases h4 : size < 1
  · have d4 : decide (size < 1) = true := decide_eq_true h4
    go_enter Try.func7, Try.ntmps7
    go_wp2_with fail
    rw [← HW1.out]
    apply region_grew [Is _, Is _, Is _, Is _, Is _] [([(4, none)], none), ([(18, some 0)], none), ([(4, none)], none), ([(20, some 2)], none), ([(19, some 1)], none)] [(7, 4), (18, 0), (19, 1), (20, 2), (21, 3)] rfl (by kernel_rfl) (by kernel_rfl) (show Stable Grew _ from ⟨Is.stable _, Is.stable _, Is.stable _, Is.stable _, Is.stable _, trivial⟩)
    · show OpsHold _ _ _ _ _ _ _ _ _
      refine ⟨fun a_ wx hR hD K hK => ?_, ?_⟩
      · have hG : Grew W1 wx := (Grew.drew _).trans hR
        simp [Deps, Dep, at_, Is] at hD
        go_simp
        exact hK _ _ (Grew.refl _) rfl
      refine ⟨fun a_ wx hR hD K hK => ?_, ?_⟩
      · have hG : Grew W1 wx := (Grew.drew _).trans hR
        simp [Deps, Dep, at_, Is] at hD
        obtain ⟨e0, e1⟩ := HB.out wx hG
        go_simp
        exact hK _ _ (Grew.refl _) rfl
      refine ⟨fun a_ wx hR hD K hK => ?_, ?_⟩
      · have hG : Grew W1 wx := (Grew.drew _).trans hR
        simp [Deps, Dep, at_, Is] at hD
        go_simp
        exact hK _ _ (Grew.refl _) rfl
      refine ⟨fun a_ wx hR hD K hK => ?_, ?_⟩
      · have hG : Grew W1 wx := (Grew.drew _).trans hR
        simp [Deps, Dep, at_, Is] at hD
        obtain ⟨e0, e1⟩ := HB.out wx hG
        go_simp
        exact hK _ _ (Grew.refl _) rfl
      refine ⟨fun a_ wx hR hD K hK => ?_, ?_⟩
      · have hG : Grew W1 wx := (Grew.drew _).trans hR
        simp [Deps, Dep, at_, Is] at hD
        go_simp
        exact hK _ _ (Grew.refl _) rfl
      trivial
    · show EndHold _ _ _ _ _ _ _
      refine end_all (xs := [_, _, _, _, _]) ⟨rfl, rfl, rfl, rfl, rfl, trivial⟩ ?_
      rintro w2 hR1 -
      refine ⟨?_⟩
      have hG_w2 : Grew W1 w2 := (Grew.drew _).trans hR1
      clear hR1
      simp only [Act.put, List.setIfInBounds_toArray, List.set_cons_succ, List.set_cons_zero, dropN, putEach]
      go_wp2_with fail
      refine (lives_c w2).mono ?_
      rintro e w3 ⟨_, rfl, rfl, hg3⟩
      go_wp2_with fail
      go_ret
      exact ⟨_, rfl, rfl, Grew.trans HG1.out (Grew.trans hG_w2 hg3)⟩
  have d4 : decide (size < 1) = false := decide_eq_false h4
  by_cases h5 : 128 < size
  · have d5 : decide (128 < size) = true := decide_eq_true h5
    go_enter Try.func7, Try.ntmps7
    go_wp2_with fail
    rw [← HW1.out]
    apply region_grew [Is _, Is _, Is _, Is _, Is _] [([(4, none)], none), ([(18, some 0)], none), ([(4, none)], none), ([(20, some 2)], none), ([(19, some 1)], none)] [(7, 4), (18, 0), (19, 1), (20, 2), (21, 3)] rfl (by kernel_rfl) (by kernel_rfl) (show Stable Grew _ from ⟨Is.stable _, Is.stable _, Is.stable _, Is.stable _, Is.stable _, trivial⟩)
    · show OpsHold _ _ _ _ _ _ _ _ _
      refine ⟨fun a_ wx hR hD K hK => ?_, ?_⟩
      · have hG : Grew W1 wx := (Grew.drew _).trans hR
        simp [Deps, Dep, at_, Is] at hD
        go_simp
        exact hK _ _ (Grew.refl _) rfl
      refine ⟨fun a_ wx hR hD K hK => ?_, ?_⟩
      · have hG : Grew W1 wx := (Grew.drew _).trans hR
        simp [Deps, Dep, at_, Is] at hD
        obtain ⟨e0, e1⟩ := HB.out wx hG
        go_simp
        exact hK _ _ (Grew.refl _) rfl
      refine ⟨fun a_ wx hR hD K hK => ?_, ?_⟩
      · have hG : Grew W1 wx := (Grew.drew _).trans hR
        simp [Deps, Dep, at_, Is] at hD
        go_simp
        exact hK _ _ (Grew.refl _) rfl
      refine ⟨fun a_ wx hR hD K hK => ?_, ?_⟩
      · have hG : Grew W1 wx := (Grew.drew _).trans hR
        simp [Deps, Dep, at_, Is] at hD
        obtain ⟨e0, e1⟩ := HB.out wx hG
        go_simp
        exact hK _ _ (Grew.refl _) rfl
      refine ⟨fun a_ wx hR hD K hK => ?_, ?_⟩
      · have hG : Grew W1 wx := (Grew.drew _).trans hR
        simp [Deps, Dep, at_, Is] at hD
        go_simp
        exact hK _ _ (Grew.refl _) rfl
      trivial
    · show EndHold _ _ _ _ _ _ _
      refine end_all (xs := [_, _, _, _, _]) ⟨rfl, rfl, rfl, rfl, rfl, trivial⟩ ?_
      rintro w2 hR1 -
      refine ⟨?_⟩
      have hG_w2 : Grew W1 w2 := (Grew.drew _).trans hR1
      clear hR1
      simp only [Act.put, List.setIfInBounds_toArray, List.set_cons_succ, List.set_cons_zero, dropN, putEach]
      go_wp2_with fail
      refine (lives_c w2).mono ?_
      rintro e w3 ⟨_, rfl, rfl, hg3⟩
      go_wp2_with fail
      go_ret
      exact ⟨_, rfl, rfl, Grew.trans HG1.out (Grew.trans hG_w2 hg3)⟩
  obtain ⟨s, rfl⟩ := Int.eq_ofNat_of_zero_le (show 0 ≤ size by omega)
  have d5 : decide (128 < (s : Int)) = false := decide_eq_false h5
  have d4n : decide (s < 1) = false := decide_eq_false (by omega)
  have d5n : decide (128 < s) = false := decide_eq_false (by omega)
  have hs1 : 1 ≤ s := by omega
  have hs2 : s ≤ 128 := by omega
  have hN : cntT b s ≤ 200 := by
    have e : cntT b s = (B + s - 1) / s := by rw [← hB]; rfl
    rw [e]
    exact Nat.le_trans (Nat.div_le_self _ _) (by omega)
  obtain ⟨N, hNN⟩ : ∃ N, N = cntT b s := ⟨_, rfl⟩
  have hbok := blocks_okB b s hs1 hs2 (by omega)
  -- the signatures
  obtain ⟨sg, hsg⟩ : ∃ sg, sg = (blksT b s (cntT b s)).map (oneS key) := ⟨_, rfl⟩
  have hsl : sg.length = N := by rw [hsg, List.length_map, blksT_len, hNN]
  have hbsz : ∀ x ∈ blksT b s (cntT b s), x.size ≤ 128 := by
    intro x hx
    unfold blksT at hx
    obtain ⟨m, -, rfl⟩ := List.mem_map.1 hx
    have := blk_sizeP b s m
    omega
  have hsi := fun wx => signs_c wx key b (s : Int) (cntT b s + 2) _ 0 hbok (fun h => absurd rfl h) (by rw [blksT_len]; omega) (fun x hx => by have := hbsz x hx; omega) (by omega)
  rw [← hsg] at hsi
  have hwf : ∀ x ∈ sg, (Lit.int .u32 x.f0).wf = true := by
    intro x hx
    rw [hsg] at hx
    obtain ⟨y, -, rfl⟩ := List.mem_map.1 hx
    exact oneS_wf key y
  obtain ⟨la, hla⟩ : ∃ la, la = lastT b.size s := ⟨_, rfl⟩
  have hlal : la ≤ s := by rw [hla]; exact lastT_le hs1
  have hlz : la = 0 ↔ sg.length = 0 := by rw [hla, hsl, hNN]; exact lastT_zero hs1
  have hlc := fun wx => last_c b s wx hs1 hs2 (by omega)
  rw [← hla] at hlc
  -- the pieces
  obtain ⟨R, hR⟩ : ∃ R, R = mkD key sg s la t (t.size + 1) 0 [] := ⟨_, rfl⟩
  obtain ⟨hm1, hm2, hm3, hm4⟩ := mkD_back key b t s hs1 hs2 (by omega) (by omega) R (by rw [hR, hsg, hla])
  obtain ⟨n, hn⟩ : ∃ n, R.length = n := ⟨_, rfl⟩
  have HMA := Lib.hid (fun (wx : World) (A : Option Addr) (c : Nat) (h : Kd.C k64 wx A N sg) (hc : N ≤ c) => show Calls Try.prog 17 #[.string key, .slice A N c, .int .i64 (s : Int), .int .i64 (la : Int), .string t] wx (Tells wx (DecT (R, 0))) from by
    have h9 := make_c wx key t sg A c s la (by rw [hsl]; exact h) (by rw [hsl]; exact hc) hs1 hs2 hlal hlz (by omega) (by omega) (by omega) hwf
    rw [hsl, ← hR] at h9
    exact h9)
  have HCK := Lib.hid (fun (wx : World) (A : Option Addr) (c : Nat) (h : Kd.C k43 wx A n R) (hc : n ≤ c) => show Calls Try.prog 22 #[.slice A n c] wx (Tells wx (Is (.int .i64 0))) from by
    have h9 := chk_c A c R wx (by rw [hn]; exact h) (by rw [hn]; exact hc)
    rw [hn, hm1] at h9
    exact h9)
  obtain ⟨P, hP⟩ : ∃ P, P = patP b (s : Int) R := ⟨_, rfl⟩
  rw [← hP] at hm4
  have HPA := Lib.hid (fun (wx : World) (A : Option Addr) (c : Nat) (h : Kd.C k43 wx A n R) (hc : n ≤ c) => show Calls Try.prog 20 #[.string b, .int .i64 (s : Int), .slice A n c] wx (Tells wx (Is (.tuple #[.string P.1, .int .i64 P.2]))) from by
    have h9 := patch_c wx b (s : Int) R A c (by rw [hn]; exact h) (by rw [hn]; exact hc) (by omega) (fun p hp => by have := hm3 p hp; omega)
    rw [hn, ← hP] at h9
    exact h9)
  -- the blocks, and the windows
  have HBL := Lib.hid (fun (wx : World) => sign_Blocks.calls (cntT b s + 2) b (s : Int) _ _ wx hbok)
  have HCL := Lib.hid (fun (wx : World) (A : Option Addr) (c : Nat) (L : List ByteArray) (hL : L = blksT b s (cntT b s) ++ winT t s T) (hno : P ≠ (t, 0)) (h : Kd.C Kd.string wx A L.length L) (hc : L.length ≤ c) => show Calls Try.prog 24 #[.string key, .slice A L.length c] wx (Tells wx (Is (.bool true))) from by
    have hnc : ¬ NoClash key L := fun h => hno (hm4 (by rw [hT, ← hL]; exact h))
    obtain ⟨I, J, c1, c2, c3, c4⟩ := clash_of hnc
    have hll : L.length ≤ 1000 := by rw [hL, List.length_append, blksT_len, winT_len]; omega
    refine clash_c wx key L A c h hc (by omega) (by omega) ?_ I J c1 c2 c3 c4
    intro x hx
    rw [hL] at hx
    rcases List.mem_append.1 hx with hx | hx
    · have := hbsz x hx; omega
    · unfold winT at hx
      obtain ⟨m, -, rfl⟩ := List.mem_map.1 hx
      rw [ByteArray.size_extract]
      omega)
  have HLL := Lib.hid (show ∀ i, i ≤ T → (blksT b s (cntT b s) ++ winT t s i).length ≤ 1000 from fun i hi => by rw [List.length_append, blksT_len, winT_len]; omega)
  have HSI := Lib.hid hsi
  have HLC := Lib.hid hlc
  have HSL := Lib.hid hsl
  have HNR := Lib.hid hn
  have HT := Lib.hid hT
  have hT60 : T ≤ 60 := by omega
  clear h1 h2 h3 h4 h5 hN hNN hbok hsg hsl hbsz hsi hwf hla hlal hlz hlc hR hm1 hm2 hm3 hm4 hn hP
  go_enter Try.func7, Try.ntmps7
  go_wp2_with fail
  rw [← HW1.out]
  apply region_grew [Is _, Is _, Is _, Is _, Is _] [([(4, none)], none), ([(18, some 0)], none), ([(4, none)], none), ([(20, some 2)], none), ([(19, some 1)], none)] [(7, 4), (18, 0), (19, 1), (20, 2), (21, 3)] rfl (by kernel_rfl) (by kernel_rfl) (show Stable Grew _ from ⟨Is.stable _, Is.stable _, Is.stable _, Is.stable _, Is.stable _, trivial⟩)
  · show OpsHold _ _ _ _ _ _ _ _ _
    refine ⟨fun a_ wx hR hD K hK => ?_, ?_⟩
    · have hG : Grew W1 wx := (Grew.drew _).trans hR
      simp [Deps, Dep, at_, Is] at hD
      go_simp
      exact hK _ _ (Grew.refl _) rfl
    refine ⟨fun a_ wx hR hD K hK => ?_, ?_⟩
    · have hG : Grew W1 wx := (Grew.drew _).trans hR
      simp [Deps, Dep, at_, Is] at hD
      obtain ⟨e0, e1⟩ := HB.out wx hG
      go_simp
      exact hK _ _ (Grew.refl _) rfl
    refine ⟨fun a_ wx hR hD K hK => ?_, ?_⟩
    · have hG : Grew W1 wx := (Grew.drew _).trans hR
      simp [Deps, Dep, at_, Is] at hD
      go_simp
      exact hK _ _ (Grew.refl _) rfl
    refine ⟨fun a_ wx hR hD K hK => ?_, ?_⟩
    · have hG : Grew W1 wx := (Grew.drew _).trans hR
      simp [Deps, Dep, at_, Is] at hD
      obtain ⟨e0, e1⟩ := HB.out wx hG
      go_simp
      exact hK _ _ (Grew.refl _) rfl
    refine ⟨fun a_ wx hR hD K hK => ?_, ?_⟩
    · have hG : Grew W1 wx := (Grew.drew _).trans hR
      simp [Deps, Dep, at_, Is] at hD
      go_simp
      exact hK _ _ (Grew.refl _) rfl
    trivial
  · show EndHold _ _ _ _ _ _ _
    refine end_all (xs := [_, _, _, _, _]) ⟨rfl, rfl, rfl, rfl, rfl, trivial⟩ ?_
    rintro w2 hR1 -
    refine ⟨?_⟩
    have hG_w2 : Grew W1 w2 := (Grew.drew _).trans hR1
    clear hR1
    simp only [Act.put, List.setIfInBounds_toArray, List.set_cons_succ, List.set_cons_zero, dropN, putEach]
    have HG2 := Lib.hid (Grew.trans HG1.out hG_w2)
    clear hG_w2
    go_wp2_with fail
    clear d1 d1n d2 d2n d3 d3n d4 d4n d5 d5n
    refine (HSI.out w2).mono ?_
    rintro e w3 ⟨_, rfl, ⟨v0, rfl, hown⟩, hg3⟩
    obtain ⟨A1, c1, rfl, hcc1, hCC1⟩ := sg_C hown rfl
    rw [HSL.out] at hcc1 hCC1 ⊢
    have HCC1 := Lib.hid (fun wx (h : Grew w3 wx) => Kd.C_below hCC1 h)
    have HG3 := Lib.hid (Grew.trans HG2.out hg3)
    clear hown hCC1 hg3
    go_wp2_with fail
    refine (HLC.out w3).mono ?_
    rintro e w4 ⟨_, rfl, rfl, hg4⟩
    have HG4 := Lib.hid (Grew.trans HG3.out hg4)
    have HS4 := Lib.hid (HCC1.out w4 hg4)
    clear hg4
    go_wp2_with fail
    refine (HMA.out w4 A1 c1 HS4.out hcc1).mono ?_
    rintro e w5 ⟨_, rfl, ⟨A3, c3, rfl, hc3, hC3⟩, hg5⟩
    simp only at hc3 hC3 ⊢
    rw [HNR.out] at hc3 hC3 ⊢
    have HC3 := Lib.hid (fun wx (h : Grew w5 wx) => Kd.C_below hC3 h)
    have HG5 := Lib.hid (Grew.trans HG4.out hg5)
    clear hC3 hg5
    go_wp2_with fail
    refine (HCK.out w5 A3 c3 (HC3.out w5 (Grew.refl _)) hc3).mono ?_
    rintro e w6 ⟨_, rfl, rfl, hg6⟩
    have HC6 := Lib.hid (HC3.out w6 hg6)
    have HG6 := Lib.hid (Grew.trans HG5.out hg6)
    clear hg6
    go_wp2_with fail
    refine (HPA.out w6 A3 c3 HC6.out hc3).mono ?_
    rintro e w7 ⟨_, rfl, rfl, hg7⟩
    have HG7 := Lib.hid (Grew.trans HG6.out hg7)
    clear hg7
    obtain ⟨P1, P2⟩ := P
    by_cases hp2 : P2 = 0
    · have e1 : (P2 == 0) = true := by simp [hp2]
      by_cases hp1 : P1 = t
      · subst hp2 hp1
        go_wp2_with fail
        refine (lives_c w7).mono ?_
        rintro e w8 ⟨_, rfl, rfl, hg8⟩
        go_wp2_with fail
        go_ret
        exact ⟨_, rfl, rfl, Grew.trans HG7.out hg8⟩
      · have hl1 : ¬ P1.toList = t.toList := fun h => hp1 ((tl_iff _ _).1 h)
        have hl2 : (P1.toList == t.toList) = false := by simp [hl1]
        have hl4 : decide (P1.toList = t.toList) = false := decide_eq_false hl1
        have HNO := Lib.hid (show ((P1, P2) : ByteArray × Int) ≠ (t, 0) from fun h => hp1 (congrArg Prod.fst h))
        subst hp2
        clear hp1 e1
        go_wp2_with fail
        refine (HBL.out w7).mono ?_
        rintro e w8 ⟨v8, rfl, hR8, hb8⟩
        obtain ⟨B7, hB7⟩ : ∃ B7, B7 = w7.heap.size := ⟨_, rfl⟩
        have HB7 := Lib.hid hB7
        rw [← hB7] at hR8
        obtain ⟨BLS, hBLS⟩ : ∃ BLS, BLS = blksT b s (cntT b s) := ⟨_, rfl⟩
        rw [← hBLS] at hR8 HCL HLL
        have HR8 := Lib.hid (show Kd.R Kd.string 9 w8 B7 (fun _ => True) v8 (BLS ++ winT t s 0) from by
          rw [show winT t s 0 = [] from rfl, List.append_nil]; exact hR8)
        have HG8 := Lib.hid (show Grew w7 w8 from hb8)
        clear hB7 hR8 hb8 hBLS HBL
        go_wp2_with fail
        go_loopw [15, 17] (fun v15 iv wr => ∃ i : Nat, iv = .int .i64 (i : Int) ∧ i ≤ T ∧ Kd.R Kd.string 9 wr B7 (fun _ => True) v15 (BLS ++ winT t s i) ∧ Grew w7 wr) (fun _ iv _ => T - (intOf iv).toNat)
        case atStart => exact ⟨0, rfl, Nat.zero_le _, HR8.out, HG8.out⟩
        case round =>
          obtain ⟨i, rfl, hi, hRi, hgr⟩ := hrel
          have HRI := Lib.hid hRi
          have HGR := Lib.hid hgr
          clear hRi hgr
          by_cases hlt : i < T
          · have d1 : decide ((i : Int) < (T : Int)) = true := decide_eq_true (by omega)
            have d2 : decide (i < T) = true := decide_eq_true hlt
            obtain ⟨y, hy⟩ : ∃ y, y = min (i + s) T := ⟨_, rfl⟩
            have r2 : IntKind.i64.wrap ((i : Int) + (s : Int)) = (i : Int) + (s : Int) := IntWalk.i64_in _ (by omega)
            have r3 := slice_min t i y (by omega) (by rw [HT.out]; omega)
            have r4 : (if (T : Int) < (i : Int) + (s : Int) then (T : Int) else (i : Int) + (s : Int)) = (y : Int) := by split <;> omega
            have r5 : (if (i : Int) + (s : Int) < (T : Int) then (i : Int) + (s : Int) else (T : Int)) = (y : Int) := by split <;> omega
            have wi : IntKind.i64.wrap ((i : Int) + 1) = (i : Int) + 1 := IntWalk.i64_in _ (by omega)
            have HWI := Lib.hid wi
            obtain ⟨x, hx⟩ : ∃ x, x = t.extract i y := ⟨_, rfl⟩
            rw [← hx] at r3
            have hnx : (BLS ++ winT t s i) ++ [x] = BLS ++ winT t s (i + 1) := by rw [winT_succ, List.append_assoc, hx, hy, HT.out]
            obtain ⟨LL, hLL⟩ : ∃ LL, LL = BLS ++ winT t s i := ⟨_, rfl⟩
            rw [← hLL] at HRI hnx
            have hll : (LL.length + 1) * 16 ≤ 140737488355328 := by
              have := HLL.out i hi
              rw [← hLL] at this
              omega
            have HLX := Lib.hid hll
            have HNX := Lib.hid hnx
            clear hy hx hnx hLL hll wi
            go_wp2_with (at_builtin; refine Kd.R_append Kd.string (w0 := w7) B7 (by rfl) (.tmp 100) (.tmp 110) 50 9 (.string ⟨#[]⟩) 16 (by rfl) Try.underlying50 info9 (by rfl) (by decide) (by omega) _ LL x [.string x] (fun _ => True) (fun _ => False) (by rfl) (by rfl) rfl (fun _ hk => hk.elim) (fun _ _ => trivial) HRI.out (by rw [HB7.out]; exact HGR.out) (by rw [HB7.out]; exact HGR.out.size) HLX.out ?_; intro v1 w9 ho hb hg hat; rw [HNX.out] at ho; rw [HB7.out] at hb; replace ho := Lib.hid ho; replace hb := Lib.hid hb; clear hg hat)
            have wi := HWI.out
            go_wp2_with fail
            go_roundw
            case rel => exact ⟨i + 1, by go_num, by omega, ho.out, hb.out⟩
            case measure => have wi := HWI.out; simp [intOf, wi]; omega
          · obtain rfl : T = i := by omega
            have d1 : decide ((T : Int) < (T : Int)) = false := decide_eq_false (by omega)
            have d2 : decide (T < T) = false := decide_eq_false (by omega)
            obtain ⟨LL, hLL⟩ : ∃ LL, LL = BLS ++ winT t s T := ⟨_, rfl⟩
            have HRII := HRI.out
            rw [← hLL] at HRII
            obtain ⟨A9, c9, rfl, hc9, hC9⟩ := Kd.R_reads HRII
            have HCC := Lib.hid (HCL.out wr A9 c9 LL hLL HNO.out hC9 hc9)
            obtain ⟨m, hm⟩ : ∃ m, m = LL.length := ⟨_, rfl⟩
            rw [← hm] at HCC hc9 ⊢
            clear hLL HRII hC9 hm HRI
            go_wp2_with fail
            refine HCC.out.mono ?_
            rintro e w9 ⟨_, rfl, rfl, hg9⟩
            go_wp2_with fail
            refine (lives_c w9).mono ?_
            rintro e w10 ⟨_, rfl, rfl, hg10⟩
            go_wp2_with fail
            go_ret
            exact ⟨_, rfl, rfl, Grew.trans HG7.out (Grew.trans HGR.out (Grew.trans hg9 hg10))⟩
    · have e1 : (P2 == 0) = false := by simp [hp2]
      have HNO := Lib.hid (show ((P1, P2) : ByteArray × Int) ≠ (t, 0) from fun h => hp2 (congrArg Prod.snd h))
      go_wp2_with fail
      refine (HBL.out w7).mono ?_
      rintro e w8 ⟨v8, rfl, hR8, hb8⟩
      obtain ⟨B7, hB7⟩ : ∃ B7, B7 = w7.heap.size := ⟨_, rfl⟩
      have HB7 := Lib.hid hB7
      rw [← hB7] at hR8
      obtain ⟨BLS, hBLS⟩ : ∃ BLS, BLS = blksT b s (cntT b s) := ⟨_, rfl⟩
      rw [← hBLS] at hR8 HCL HLL
      have HR8 := Lib.hid (show Kd.R Kd.string 9 w8 B7 (fun _ => True) v8 (BLS ++ winT t s 0) from by
        rw [show winT t s 0 = [] from rfl, List.append_nil]; exact hR8)
      have HG8 := Lib.hid (show Grew w7 w8 from hb8)
      clear hB7 hR8 hb8 hBLS HBL
      go_wp2_with fail
      go_loopw [15, 17] (fun v15 iv wr => ∃ i : Nat, iv = .int .i64 (i : Int) ∧ i ≤ T ∧ Kd.R Kd.string 9 wr B7 (fun _ => True) v15 (BLS ++ winT t s i) ∧ Grew w7 wr) (fun _ iv _ => T - (intOf iv).toNat)
      case atStart => exact ⟨0, rfl, Nat.zero_le _, HR8.out, HG8.out⟩
      case round =>
        obtain ⟨i, rfl, hi, hRi, hgr⟩ := hrel
        have HRI := Lib.hid hRi
        have HGR := Lib.hid hgr
        clear hRi hgr
        by_cases hlt : i < T
        · have d1 : decide ((i : Int) < (T : Int)) = true := decide_eq_true (by omega)
          have d2 : decide (i < T) = true := decide_eq_true hlt
          obtain ⟨y, hy⟩ : ∃ y, y = min (i + s) T := ⟨_, rfl⟩
          have r2 : IntKind.i64.wrap ((i : Int) + (s : Int)) = (i : Int) + (s : Int) := IntWalk.i64_in _ (by omega)
          have r3 := slice_min t i y (by omega) (by rw [HT.out]; omega)
          have r4 : (if (T : Int) < (i : Int) + (s : Int) then (T : Int) else (i : Int) + (s : Int)) = (y : Int) := by split <;> omega
          have r5 : (if (i : Int) + (s : Int) < (T : Int) then (i : Int) + (s : Int) else (T : Int)) = (y : Int) := by split <;> omega
          have wi : IntKind.i64.wrap ((i : Int) + 1) = (i : Int) + 1 := IntWalk.i64_in _ (by omega)
          have HWI := Lib.hid wi
          obtain ⟨x, hx⟩ : ∃ x, x = t.extract i y := ⟨_, rfl⟩
          rw [← hx] at r3
          have hnx : (BLS ++ winT t s i) ++ [x] = BLS ++ winT t s (i + 1) := by rw [winT_succ, List.append_assoc, hx, hy, HT.out]
          obtain ⟨LL, hLL⟩ : ∃ LL, LL = BLS ++ winT t s i := ⟨_, rfl⟩
          rw [← hLL] at HRI hnx
          have hll : (LL.length + 1) * 16 ≤ 140737488355328 := by
            have := HLL.out i hi
            rw [← hLL] at this
            omega
          have HLX := Lib.hid hll
          have HNX := Lib.hid hnx
          clear hy hx hnx hLL hll wi
          go_wp2_with (at_builtin; refine Kd.R_append Kd.string (w0 := w7) B7 (by rfl) (.tmp 100) (.tmp 110) 50 9 (.string ⟨#[]⟩) 16 (by rfl) Try.underlying50 info9 (by rfl) (by decide) (by omega) _ LL x [.string x] (fun _ => True) (fun _ => False) (by rfl) (by rfl) rfl (fun _ hk => hk.elim) (fun _ _ => trivial) HRI.out (by rw [HB7.out]; exact HGR.out) (by rw [HB7.out]; exact HGR.out.size) HLX.out ?_; intro v1 w9 ho hb hg hat; rw [HNX.out] at ho; rw [HB7.out] at hb; replace ho := Lib.hid ho; replace hb := Lib.hid hb; clear hg hat)
          have wi := HWI.out
          go_wp2_with fail
          go_roundw
          case rel => exact ⟨i + 1, by go_num, by omega, ho.out, hb.out⟩
          case measure => have wi := HWI.out; simp [intOf, wi]; omega
        · obtain rfl : T = i := by omega
          have d1 : decide ((T : Int) < (T : Int)) = false := decide_eq_false (by omega)
          have d2 : decide (T < T) = false := decide_eq_false (by omega)
          obtain ⟨LL, hLL⟩ : ∃ LL, LL = BLS ++ winT t s T := ⟨_, rfl⟩
          have HRII := HRI.out
          rw [← hLL] at HRII
          obtain ⟨A9, c9, rfl, hc9, hC9⟩ := Kd.R_reads HRII
          have HCC := Lib.hid (HCL.out wr A9 c9 LL hLL HNO.out hC9 hc9)
          obtain ⟨m, hm⟩ : ∃ m, m = LL.length := ⟨_, rfl⟩
          rw [← hm] at HCC hc9 ⊢
          clear hLL HRII hC9 hm HRI
          go_wp2_with fail
          refine HCC.out.mono ?_
          rintro e w9 ⟨_, rfl, rfl, hg9⟩
          go_wp2_with fail
          refine (lives_c w9).mono ?_
          rintro e w10 ⟨_, rfl, rfl, hg10⟩
          go_wp2_with fail
          go_ret
          exact ⟨_, rfl, rfl, Grew.trans HG7.out (Grew.trans HGR.out (Grew.trans hg9 hg10))⟩
end Go.Proofs.Ytimcafohmahapaa.F

-- WSized
-- PRINTED BY print.sh 35421559b90ae4d0a3588c463048766b98c2df88dd9212a6774a882060cdf62d: not written by this session
-- PRINTED WORDS (module Derived/Print/Sized.lean): go-gate-2's, for the rows of laws over slices: an AI agent of Go's test side, Tue Nov 17 2026; no person has read it. Lean checks it.
namespace Go.Proofs.YtimcafohmahapaaW.PrintWords
open Go.ChangeShapes Go.WideShapes
/-- A row's slice of whole numbers is no longer than its weight allows. -/
theorem sized_ints {H : Type} {enc : TypeId × Value → H} {P : Program} {W : World} {base : Nat} {spare : Nat → Bool} {held : Bool} {t e : TypeId} {k : IntKind} {a : Option Addr} {len cap : Nat} {d : DataW H} {ps : List MemPlace} {ts : List TypeId} {ds : List (DataW H)} {j : Nat}
    (hsz : (DataW.weightsEach P ts ds).all (· ≤ reachBytes) = true) (ht : ts[j]? = some t) (hd : ds[j]? = some d) (hu : P.underlying t = some (.slice e)) (he : P.underlying e = some (.int k)) (hc : P.cellsOf e = 1) {B : Nat} (hB : P.bytesOf e = B)
    (h : DataW.Trod enc P W base spare held t (.slice a len cap) d ps) : len * B ≤ 140737488351232 := by
  obtain ⟨fuel, hf⟩ := h
  rcases open_ints hu he hc hf with ⟨hcs, _⟩ | ⟨x, l, c, zs, hcs, _, hl, _, hz, hx, _, _⟩
  · simp [Value.cells] at hcs
    obtain ⟨rfl, rfl, rfl⟩ := hcs
    simp
  · simp [Value.cells] at hcs
    obtain ⟨rfl, rfl, rfl⟩ := hcs
    obtain ⟨hx, _⟩ := Prod.mk.inj hx
    subst hx
    have z := sized_slice hsz ht hd hu
    rw [hB] at z
    have hl2 : len ≤ zs.length := by
      rw [hz]
      split
      · exact hl
      · exact Nat.le_refl _
    have h1 : (lits (H := H) k (zs.take len)).length + (lits (H := H) k (zs.drop len)).length = zs.length := by
      simp [lits]
      omega
    rw [h1] at z
    exact Nat.le_trans (Nat.mul_le_mul_right _ hl2) z
end Go.Proofs.YtimcafohmahapaaW.PrintWords

-- Open
namespace Go.Proofs.YtimcafohmahapaaO
set_option linter.unusedSimpArgs false
open Go Go.RowKit Go.ChangeShapes Go.WideShapes Go.ChangeAt Go.Proofs.YtimcafohmahapaaW.PrintWords
/-- cells of type t that can be read as data are some x of kind d -/
def Opens {α : Type} (P : Program) (t : TypeId) (d : Kd α) (ok : α → Prop) : Prop :=
  ∀ (H : Type) (enc : TypeId × Value → H) (W : World) (sp : Nat → Bool) (held : Bool) (fuel : Nat) (cs : List Value) (y : DataW H × List MemPlace), DataW.trod enc P W 0 sp held fuel t cs = some y → ∃ x, d.K W x cs ∧ ok x
section
variable {P : Program} {α : Type}
theorem opens_int {t : TypeId} {k : IntKind} (hu : P.underlying t = some (.int k)) : Opens P t (Kd.int k) (fun x => (Lit.int k x).wf = true) := by
  intro H enc W sp held fuel cs y h
  cases fuel with
  | zero => simp [DataW.trod] at h
  | succ n =>
    have key : ∃ n', cs = [.int k n'] ∧ (Lit.int k n').wf = true := by
      simp only [DataW.trod, hu] at h
      split at h <;> simp_all
    obtain ⟨x, rfl, hx⟩ := key
    exact ⟨x, rfl, hx⟩
theorem opens_bool {t : TypeId} (hu : P.underlying t = some .bool) : Opens P t Kd.bool (fun _ => True) := by
  intro H enc W sp held fuel cs y h
  cases fuel with
  | zero => simp [DataW.trod] at h
  | succ n =>
    have key : ∃ b, cs = [.bool b] := by
      simp only [DataW.trod, hu] at h
      split at h <;> simp_all
    obtain ⟨x, rfl⟩ := key
    exact ⟨x, rfl, trivial⟩
theorem opens_string {t : TypeId} (hu : P.underlying t = some .string) : Opens P t Kd.string (fun s => s.size ≤ maxLen) := by
  intro H enc W sp held fuel cs y h
  cases fuel with
  | zero => simp [DataW.trod] at h
  | succ n =>
    simp only [DataW.trod, hu] at h
    split at h <;> simp_all
    exact ⟨_, rfl, h.1⟩
theorem mapM_get {β γ : Type} {f : β → Option γ} : ∀ {l : List β} {ys : List γ}, l.mapM f = some ys → ys.length = l.length ∧ ∀ (i : Nat) (x : β), l[i]? = some x → ∃ y, f x = some y
  | [], ys, h => by simp at h; subst h; simp
  | a :: l, ys, h => by
    simp only [List.mapM_cons] at h
    obtain ⟨b, hb, h⟩ := Option.bind_eq_some_iff.1 h
    obtain ⟨bs, hbs, h⟩ := Option.bind_eq_some_iff.1 h
    simp at h
    subst h
    have ih := mapM_get hbs
    refine ⟨by simp [ih.1], fun i x hx => ?_⟩
    cases i with
    | zero => simp at hx; subst hx; exact ⟨b, hb⟩
    | succ i => simp at hx; exact ih.2 i x hx
theorem choose_list {ok : α → Prop} {Q : Nat → α → Prop} : ∀ n : Nat, (∀ i, i < n → ∃ x, Q i x ∧ ok x) → ∃ xs : List α, xs.length = n ∧ (∀ (i : Nat) (x : α), xs[i]? = some x → Q i x) ∧ ∀ x ∈ xs, ok x
  | 0, _ => ⟨[], rfl, by simp, by simp⟩
  | n + 1, h => by
    obtain ⟨xs, h1, h2, h3⟩ := choose_list n (fun i hi => h i (by omega))
    obtain ⟨x, hx, hk⟩ := h n (by omega)
    refine ⟨xs ++ [x], by simp [h1], fun i y hy => ?_, fun y hy => ?_⟩
    · rcases Nat.lt_or_ge i n with hlt | hge
      · rw [List.getElem?_append_left (by omega)] at hy; exact h2 i y hy
      · rw [List.getElem?_append_right (by omega)] at hy
        have : i = n := by
          rcases Nat.lt_or_ge n i with h' | h'
          · rw [List.getElem?_eq_none (by simp; omega)] at hy; cases hy
          · omega
        subst this
        simp [h1] at hy
        subst hy; exact hx
    · rcases List.mem_append.1 hy with hy | hy
      · exact h3 y hy
      · simp at hy; subst hy; exact hk
theorem cells_get {W : World} {a : Addr} {n : Nat} {cs : List Value} (h : W.cells? 0 a n = some cs) : cs.length = n ∧ ∀ (i : Nat) (u : Value), cs[i]? = some u → W.cell? (a.add i) = some u := by
  unfold World.cells? at h
  rw [if_pos (Nat.zero_le _)] at h
  have h1 := mapM_get h
  refine ⟨by simpa using h1.1, fun i u hu => ?_⟩
  have hi : i < n := by
    have := (List.getElem?_eq_some_iff.1 hu).1
    rw [h1.1] at this; simpa using this
  obtain ⟨y, hy⟩ := h1.2 i i (by simp [hi])
  have key : ∀ (l : List Nat) (ys : List Value), l.mapM (fun i => W.cell? (a.add i)) = some ys → ∀ (j : Nat), ys[j]? = (l[j]?).bind fun i => W.cell? (a.add i) := by
    intro l
    induction l with
    | nil => intro ys h j; simp at h; subst h; simp
    | cons b l ih =>
      intro ys h j
      simp only [List.mapM_cons] at h
      obtain ⟨c, hc, h⟩ := Option.bind_eq_some_iff.1 h
      obtain ⟨cs', hcs, h⟩ := Option.bind_eq_some_iff.1 h
      simp at h; subst h
      cases j with
      | zero => simp [hc]
      | succ j => simpa using ih cs' hcs j
  have := key _ _ h i
  rw [hu] at this
  simp [hi] at this
  exact this.symm
theorem opens_slice {t e : TypeId} {d : Kd α} {ok : α → Prop} (hu : P.underlying t = some (.slice e)) (he : Opens P e d ok) (hc : P.cellsOf e = d.sz) : Opens P t (Kd.slice e d) (fun xs => ∀ x ∈ xs, ok x) := by
  intro H enc W sp held fuel cs y h
  cases fuel with
  | zero => simp [DataW.trod] at h
  | succ n =>
    have key : cs = [.slice none 0 0] ∨ ∃ a len cap, cs = [.slice (some a) len cap] ∧ len ≤ cap ∧ cap ≤ maxLen ∧ ∃ elems, (List.range len).mapM (fun i => (W.cells? 0 (a.add (i * P.cellsOf e)) (P.cellsOf e)).bind (DataW.trod enc P W 0 sp held n e)) = some elems := by
      simp only [DataW.trod, hu] at h
      split at h <;> try (simp_all; done)
      rename_i e' a len cap heq
      simp only [Option.some.injEq, TypeDesc.slice.injEq] at heq
      subst heq
      split at h
      · rename_i hb
        obtain ⟨elems, he1, _⟩ := Option.bind_eq_some_iff.1 h
        exact .inr ⟨a, len, cap, rfl, hb.2.1, hb.2.2, elems, he1⟩
      · cases h
    rcases key with rfl | ⟨a, len, cap, rfl, h1, h2, elems, he1⟩
    · exact ⟨[], ⟨none, 0, rfl, by simp, by simp [Kd.C, ReadsRow]⟩, by simp⟩
    · rw [hc] at he1
      have hm := mapM_get he1
      obtain ⟨xs, x1, x2, x3⟩ := choose_list (ok := ok) (Q := fun i x => ∃ c, W.cells? 0 (a.add (i * d.sz)) d.sz = some c ∧ d.K W x c) len (fun i hi => by
        obtain ⟨z, hz⟩ := hm.2 i i (by simp [hi])
        obtain ⟨c, hc1, hc2⟩ := Option.bind_eq_some_iff.1 hz
        obtain ⟨x, hx, hk⟩ := he H enc W sp held n c z hc2
        exact ⟨x, ⟨c, hc1, hx⟩, hk⟩)
      refine ⟨xs, ⟨some a, cap, by rw [x1], by omega, ?_⟩, x3⟩
      refine ⟨rfl, by have : maxLen = 9223372036854775807 := rfl; omega, fun _ => ⟨a, rfl, fun j p hp => ?_⟩⟩
      obtain ⟨c, hc1, hk⟩ := x2 j p hp
      have hg := cells_get hc1
      refine ⟨c, hg.1, hk, fun i u hiu => ?_⟩
      have := hg.2 i u hiu
      rw [← this]
      congr 1
      unfold Addr.add
      by_cases z1 : j * d.sz = 0
      · rw [if_pos z1]
        by_cases z2 : i = 0
        · simp [z1, z2]
        · rw [if_neg (by omega), if_neg z2]; simp [z1]
      · rw [if_neg z1, if_neg (by omega)]
        by_cases z2 : i = 0
        · simp [z2]
        · rw [if_neg z2]; simp [Nat.add_assoc]
theorem opens_array {t e n : Nat} {d : Kd α} {ok : α → Prop} (hs : 0 < d.sz) (hu : P.underlying t = some (.array n e)) (he : Opens P e d ok) (hc : P.cellsOf e = d.sz) (ht : P.cellsOf t = n * d.sz) : Opens P t (Kd.arr n d hs) (fun xs => ∀ x ∈ xs, ok x) := by
  intro H enc W sp held fuel cs y h
  cases fuel with
  | zero => simp [DataW.trod] at h
  | succ m =>
    simp only [DataW.trod, hu] at h
    split at h
    · rename_i hl
      obtain ⟨ys, hy, _⟩ := Option.map_eq_some_iff.1 h
      have hm := mapM_get hy
      obtain ⟨xs, x1, x2, x3⟩ := choose_list (ok := ok) (Q := fun i x => d.K W x ((cs.drop (i * d.sz)).take d.sz)) n (fun i hi => by
        obtain ⟨z, hz⟩ := hm.2 i i (by simp [hi])
        rw [hc] at hz
        exact he H enc W sp held m _ z hz)
      exact ⟨xs, ⟨x1, by rw [x1, hl, ht], x2⟩, x3⟩
    · cases h
/-- an argument of a kind -/
theorem opens_arg {t : TypeId} {d : Kd α} {ok : α → Prop} (ho : Opens P t d ok) {H : Type} {enc : TypeId × Value → H} {W : World} {sp : Nat → Bool} {held : Bool} {v : Value} {y : DataW H} {ps : List MemPlace} (h : DataW.Trod enc P W 0 sp held t v y ps) : ∃ x, d.K W x v.cells.toList ∧ ok x := by
  obtain ⟨fuel, hf⟩ := h
  exact ho H enc W sp held fuel _ _ hf
theorem okWide_array {t n e : Nat} {r : Reach} {b0 : Nat} {v : Value} {W : World} (hu : P.underlying t = some (.array n e)) (h : Value.okWide P W r b0 t v) : ∃ cs, v = .agg cs ∧ cs.size = P.cellsOf t := by
  simp only [Value.okWide, hu] at h
  obtain ⟨cs, h1, h2, _⟩ := h
  exact ⟨cs, h1, h2⟩
theorem arr2 {d : Kd α} {hs : 0 < d.sz} (h1 : d.sz = 1) {W : World} {x : List α} {cs : Array Value} (h : (Kd.arr 2 d hs).K W x cs.toList) : ∃ a b c0 c1, x = [a, b] ∧ cs = #[c0, c1] ∧ d.K W a [c0] ∧ d.K W b [c1] := by
  obtain ⟨hl, hc, hr⟩ := h
  rw [hl, h1] at hc
  obtain ⟨l⟩ := cs
  match x, hl, l, hc, hr with
  | [a, b], _, [c0, c1], _, hr => exact ⟨a, b, c0, c1, rfl, rfl, by have := hr 0 a rfl; rw [h1] at this; exact this, by have := hr 1 b rfl; rw [h1] at this; exact this⟩
theorem arr3 {d : Kd α} {hs : 0 < d.sz} (h1 : d.sz = 1) {W : World} {x : List α} {cs : Array Value} (h : (Kd.arr 3 d hs).K W x cs.toList) : ∃ a b c c0 c1 c2, x = [a, b, c] ∧ cs = #[c0, c1, c2] ∧ d.K W a [c0] ∧ d.K W b [c1] ∧ d.K W c [c2] := by
  obtain ⟨hl, hc, hr⟩ := h
  rw [hl, h1] at hc
  obtain ⟨l⟩ := cs
  match x, hl, l, hc, hr with
  | [a, b, c], _, [c0, c1, c2], _, hr => exact ⟨a, b, c, c0, c1, c2, rfl, rfl, by have := hr 0 a rfl; rw [h1] at this; exact this, by have := hr 1 b rfl; rw [h1] at this; exact this, by have := hr 2 c rfl; rw [h1] at this; exact this⟩
end
end Go.Proofs.YtimcafohmahapaaO

-- OpenW
namespace Go.Proofs.YtimcafohmahapaaO
set_option linter.unusedSimpArgs false
open Go Go.RowKit Go.ChangeShapes Go.WideShapes Go.ChangeAt Go.Proofs.YtimcafohmahapaaW.PrintWords
/-- cells of type t that can be read as data of no more weight than is reached are some x of kind d -/
def OpensW {α : Type} (P : Program) (t : TypeId) (d : Kd α) (ok : α → Prop) : Prop :=
  ∀ (H : Type) (enc : TypeId × Value → H) (W : World) (sp : Nat → Bool) (held : Bool) (fuel : Nat) (cs : List Value) (y : DataW H × List MemPlace), DataW.trod enc P W 0 sp held fuel t cs = some y → (∀ n ∈ y.1.weights P t, n ≤ reachBytes) → ∃ x, d.K W x cs ∧ ok x
section
variable {P : Program} {α : Type}
theorem Opens.w {t : TypeId} {d : Kd α} {ok : α → Prop} (h : Opens P t d ok) : OpensW P t d ok := fun H enc W sp held fuel cs y hy _ => h H enc W sp held fuel cs y hy
theorem opensW_string {t : TypeId} (hu : P.underlying t = some .string) : OpensW P t Kd.string (fun s => s.size ≤ 140737488351232) := by
  intro H enc W sp held fuel cs y h hw
  cases fuel with
  | zero => simp [DataW.trod] at h
  | succ n =>
    have key : ∃ s, cs = [.string s] ∧ y.1 = .lit (.string s.data.toList) := by
      simp only [DataW.trod, hu] at h
      split at h <;> simp_all
      rw [← h.2]
    obtain ⟨s, rfl, hy⟩ := key
    refine ⟨s, rfl, ?_⟩
    have := hw s.size (by rw [hy]; simp [DataW.weights])
    exact this
theorem mapM_mem {β γ : Type} {f : β → Option γ} : ∀ {l : List β} {ys : List γ}, l.mapM f = some ys → ∀ (x : β) (z : γ), x ∈ l → f x = some z → z ∈ ys
  | [], ys, h, x, z, hx, _ => by simp at hx
  | a :: l, ys, h, x, z, hx, hz => by
    simp only [List.mapM_cons] at h
    obtain ⟨b, hb, h⟩ := Option.bind_eq_some_iff.1 h
    obtain ⟨bs, hbs, h⟩ := Option.bind_eq_some_iff.1 h
    simp at h
    subst h
    rcases List.mem_cons.1 hx with rfl | hx
    · rw [hb] at hz; injection hz with hz; subst hz; simp
    · exact List.mem_cons_of_mem _ (mapM_mem hbs x z hx hz)
theorem weightsAll_mem {H : Type} {e : TypeId} {d : DataW H} {n : Nat} : ∀ {ds : List (DataW H)}, d ∈ ds → n ∈ d.weights P e → n ∈ DataW.weightsAll P e ds
  | [], h, _ => by simp at h
  | a :: ds, h, hn => by
    simp only [DataW.weightsAll]
    rcases List.mem_cons.1 h with rfl | h
    · exact List.mem_append_left _ hn
    · exact List.mem_append_right _ (weightsAll_mem h hn)
theorem opensW_slice {t e : TypeId} {d : Kd α} {ok : α → Prop} (hu : P.underlying t = some (.slice e)) (he : OpensW P e d ok) (hc : P.cellsOf e = d.sz) : OpensW P t (Kd.slice e d) (fun xs => ∀ x ∈ xs, ok x) := by
  intro H enc W sp held fuel cs y h hw
  cases fuel with
  | zero => simp [DataW.trod] at h
  | succ n =>
    have key : cs = [.slice none 0 0] ∨ ∃ a len cap, cs = [.slice (some a) len cap] ∧ len ≤ cap ∧ cap ≤ maxLen ∧ ∃ elems rest, (List.range len).mapM (fun i => (W.cells? 0 (a.add (i * P.cellsOf e)) (P.cellsOf e)).bind (DataW.trod enc P W 0 sp held n e)) = some elems ∧ y.1 = .slice (elems.map (·.1)) rest := by
      simp only [DataW.trod, hu] at h
      split at h <;> try (simp_all; done)
      rename_i e' a len cap heq
      simp only [Option.some.injEq, TypeDesc.slice.injEq] at heq
      subst heq
      split at h
      · rename_i hb
        obtain ⟨elems, he1, h⟩ := Option.bind_eq_some_iff.1 h
        obtain ⟨rest, _, h⟩ := Option.map_eq_some_iff.1 h
        refine .inr ⟨a, len, cap, rfl, hb.2.1, hb.2.2, elems, rest.map (·.1), he1, ?_⟩
        rw [← h]
      · cases h
    rcases key with rfl | ⟨a, len, cap, rfl, h1, h2, elems, rest, he1, hy⟩
    · exact ⟨[], ⟨none, 0, rfl, by simp, by simp [Kd.C, ReadsRow]⟩, by simp⟩
    · rw [hc] at he1
      have hm := mapM_get he1
      obtain ⟨xs, x1, x2, x3⟩ := choose_list (ok := ok) (Q := fun i x => ∃ c, W.cells? 0 (a.add (i * d.sz)) d.sz = some c ∧ d.K W x c) len (fun i hi => by
        obtain ⟨z, hz⟩ := hm.2 i i (by simp [hi])
        have hmem := mapM_mem he1 i z (by simp [hi]) hz
        obtain ⟨c, hc1, hc2⟩ := Option.bind_eq_some_iff.1 hz
        obtain ⟨x, hx, hk⟩ := he H enc W sp held n c z hc2 (fun q hq => hw q (by
          rw [hy]
          simp only [DataW.weights, hu]
          exact List.mem_cons_of_mem _ (List.mem_append_left _ (weightsAll_mem (List.mem_map_of_mem hmem) hq))))
        exact ⟨x, ⟨c, hc1, hx⟩, hk⟩)
      refine ⟨xs, ⟨some a, cap, by rw [x1], by omega, ?_⟩, x3⟩
      refine ⟨rfl, by have : maxLen = 9223372036854775807 := rfl; omega, fun _ => ⟨a, rfl, fun j p hp => ?_⟩⟩
      obtain ⟨c, hc1, hk⟩ := x2 j p hp
      have hg := cells_get hc1
      refine ⟨c, hg.1, hk, fun i u hiu => ?_⟩
      have := hg.2 i u hiu
      rw [← this]
      congr 1
      unfold Addr.add
      by_cases z1 : j * d.sz = 0
      · rw [if_pos z1]
        by_cases z2 : i = 0
        · simp [z1, z2]
        · rw [if_neg (by omega), if_neg z2]; simp [z1]
      · rw [if_neg z1, if_neg (by omega)]
        by_cases z2 : i = 0
        · simp [z2]
        · rw [if_neg z2]; simp [Nat.add_assoc]
theorem opensW_array {t e n : Nat} {d : Kd α} {ok : α → Prop} (hs : 0 < d.sz) (hu : P.underlying t = some (.array n e)) (he : OpensW P e d ok) (hc : P.cellsOf e = d.sz) (ht : P.cellsOf t = n * d.sz) : OpensW P t (Kd.arr n d hs) (fun xs => ∀ x ∈ xs, ok x) := by
  intro H enc W sp held fuel cs y h hw
  cases fuel with
  | zero => simp [DataW.trod] at h
  | succ m =>
    simp only [DataW.trod, hu] at h
    split at h
    · rename_i hl
      obtain ⟨ys, hy, hyy⟩ := Option.map_eq_some_iff.1 h
      have hm := mapM_get hy
      obtain ⟨xs, x1, x2, x3⟩ := choose_list (ok := ok) (Q := fun i x => d.K W x ((cs.drop (i * d.sz)).take d.sz)) n (fun i hi => by
        obtain ⟨z, hz⟩ := hm.2 i i (by simp [hi])
        have hmem := mapM_mem hy i z (by simp [hi]) hz
        rw [hc] at hz
        exact he H enc W sp held m _ z hz (fun q hq => hw q (by
          rw [← hyy]
          simp only [DataW.weights, hu]
          exact weightsAll_mem (List.mem_map_of_mem hmem) hq)))
      exact ⟨xs, ⟨x1, by rw [x1, hl, ht], x2⟩, x3⟩
    · cases h
/-- an argument of a kind -/
theorem opensW_arg {t : TypeId} {d : Kd α} {ok : α → Prop} (ho : OpensW P t d ok) {H : Type} {enc : TypeId × Value → H} {W : World} {sp : Nat → Bool} {held : Bool} {v : Value} {y : DataW H} {ps : List MemPlace} {ts : List TypeId} {ds : List (DataW H)} {j : Nat}
    (hsz : (DataW.weightsEach P ts ds).all (· ≤ reachBytes) = true) (ht : ts[j]? = some t) (hd : ds[j]? = some y) (h : DataW.Trod enc P W 0 sp held t v y ps) : ∃ x, d.K W x v.cells.toList ∧ ok x := by
  obtain ⟨fuel, hf⟩ := h
  exact ho H enc W sp held fuel _ _ hf (fun n hn => by
    have := List.all_eq_true.1 hsz _ (DataW.weights_mem_each ht hd n hn)
    simpa using this)
end
end Go.Proofs.YtimcafohmahapaaO

-- OpenS
namespace Go.Proofs.YtimcafohmahapaaO
set_option linter.unusedSimpArgs false
open Go Go.RowKit Go.ChangeShapes Go.WideShapes Go.ChangeAt Go.Proofs.YtimcafohmahapaaW.PrintWords
section
variable {P : Program} {α β : Type}
/-- the fields from a place on -/
def OpensF (P : Program) (fs : List Field) (off : Nat) (d : Kd α) (ok : α → Prop) : Prop :=
  ∀ (H : Type) (enc : TypeId × Value → H) (W : World) (sp : Nat → Bool) (held : Bool) (fuel : Nat) (cs : List Value) (ys : List (DataW H × List MemPlace)),
    fs.mapM (fun f => DataW.trod enc P W 0 sp held fuel f.type ((cs.drop f.offset).take (P.cellsOf f.type))) = some ys → (∀ n ∈ DataW.weightsEach P (fs.map (·.type)) (ys.map (·.1)), n ≤ reachBytes) →
    ∃ x, d.K W x ((cs.drop off).take d.sz) ∧ ok x
theorem opensF_one {f : Field} {d : Kd α} {ok : α → Prop} (h : OpensW P f.type d ok) (hc : P.cellsOf f.type = d.sz) : OpensF P [f] f.offset d ok := by
  intro H enc W sp held fuel cs ys hy hw
  simp only [List.mapM_cons, List.mapM_nil] at hy
  obtain ⟨y, hy1, hy⟩ := Option.bind_eq_some_iff.1 hy
  simp at hy
  subst hy
  rw [hc] at hy1
  exact h H enc W sp held fuel _ y hy1 fun n hn => hw n (by simp [DataW.weightsEach, hn])
theorem opensF_cons {f : Field} {fs : List Field} {d : Kd α} {d2 : Kd β} {ok : α → Prop} {ok2 : β → Prop} (h : OpensW P f.type d ok) (hc : P.cellsOf f.type = d.sz) (h2 : OpensF P fs (f.offset + d.sz) d2 ok2) :
    OpensF P (f :: fs) f.offset (Kd.pair d d2) (fun x => ok x.1 ∧ ok2 x.2) := by
  intro H enc W sp held fuel cs ys hy hw
  simp only [List.mapM_cons] at hy
  obtain ⟨y, hy1, hy⟩ := Option.bind_eq_some_iff.1 hy
  obtain ⟨ys2, hy2, hy⟩ := Option.bind_eq_some_iff.1 hy
  simp at hy
  subst hy
  rw [hc] at hy1
  obtain ⟨x1, k1, o1⟩ := h H enc W sp held fuel _ y hy1 fun n hn => hw n (by simp [DataW.weightsEach, hn])
  obtain ⟨x2, k2, o2⟩ := h2 H enc W sp held fuel cs ys2 hy2 fun n hn => hw n (by
    simp only [List.map_cons, DataW.weightsEach]
    exact List.mem_append_right _ hn)
  refine ⟨(x1, x2), ⟨_, _, ?_, k1, k2⟩, o1, o2⟩
  show (cs.drop f.offset).take (d.sz + d2.sz) = _
  rw [List.take_add, List.drop_drop]
theorem opensW_struct {t : TypeId} {fs : Array Field} {d : Kd α} {ok : α → Prop} (hu : P.underlying t = some (.struct fs)) (h : OpensF P fs.toList 0 d ok) (hc : P.cellsOf t = d.sz) : OpensW P t d ok := by
  intro H enc W sp held fuel cs y hy hw
  cases fuel with
  | zero => simp [DataW.trod] at hy
  | succ n =>
    have key : cs.length = P.cellsOf t ∧ ∃ ys, fs.toList.mapM (fun f => DataW.trod enc P W 0 sp held n f.type ((cs.drop f.offset).take (P.cellsOf f.type))) = some ys ∧ y.1 = .agg (ys.map (·.1)) := by
      simp only [DataW.trod, hu] at hy
      split at hy
      · rename_i hl
        obtain ⟨ys, h1, h2⟩ := Option.map_eq_some_iff.1 hy
        exact ⟨hl, ys, h1, by rw [← h2]⟩
      · cases hy
    obtain ⟨hl, ys, hy1, hy2⟩ := key
    obtain ⟨x, hx, ho⟩ := h H enc W sp held n cs ys hy1 fun q hq => hw q (by
      rw [hy2]
      simp only [DataW.weights, hu]
      exact hq)
    refine ⟨x, ?_, ho⟩
    rw [List.drop_zero, ← hc, ← hl, List.take_length] at hx
    exact hx
theorem opensW_iso {t : TypeId} {d : Kd α} {ok : α → Prop} (f : β → α) (g : α → β) (hfg : ∀ x, f (g x) = x) (h : OpensW P t d ok) : OpensW P t (Kd.iso d f) (fun x => ok (f x)) := by
  intro H enc W sp held fuel cs y hy hw
  obtain ⟨x, hx, ho⟩ := h H enc W sp held fuel cs y hy hw
  exact ⟨g x, by show d.K W (f (g x)) cs; rw [hfg]; exact hx, by show ok (f (g x)); rw [hfg]; exact ho⟩
theorem okWide_struct {t : TypeId} {fs : Array Field} {r : Reach} {b0 : Nat} {v : Value} {W : World} (hu : P.underlying t = some (.struct fs)) (h : Value.okWide P W r b0 t v) : ∃ cs, v = .agg cs ∧ cs.size = P.cellsOf t := by
  simp only [Value.okWide, hu] at h
  obtain ⟨cs, h1, h2, _⟩ := h
  exact ⟨cs, h1, h2⟩
end
end Go.Proofs.YtimcafohmahapaaO

-- RowDeltaBack
namespace Go.Proofs.Ytimcafohmahapaa.deltaBack
open Go.ChangeShapes Go.WideShapes Go.ChangeAt Go.RowKit
open Go.ChangeMaps (open_string shut_string)
set_option linter.unusedVariables false
set_option linter.unusedSimpArgs false
theorem own : ownKnob Try.prog.godebug = none := by kernel_rfl
theorem laidOut : laidOutB Try.prog = true := by kernel_rfl
set_option maxRecDepth 100000 in
theorem lifted (os : Os) (started : os.Started) (H : Type) (enc : TypeId × Value → H) :
    ReturnsInHanded {} Try.checked os 7 .any (Rows.deltaBackSpec.pre6 enc Try.prog Try.f7 Rows.deltaBackRow.domain false) (Rows.deltaBackSpec.post enc Try.prog Try.f7 false true false false) := by
  refine returnsInHanded_of_change_sized (C := Try.checked) own started (by kernel_rfl) Try.func7
    (ChangeSpec.witness6 (enc := enc) (C := Try.checked) false ⟨#[], #[.string ByteArray.empty, .agg #[.string ByteArray.empty, .string ByteArray.empty], .int .i64 0], []⟩ 8 (by kernel_rfl) (by kernel_rfl) (by kernel_rfl) (by kernel_rfl)) ?_
  intro W base args ds gs before hval0 hW hcnd hsz0 _
  have hsz : (DataW.weightsEach Try.prog (Try.f7.params.toList ++ Rows.deltaBackSpec.plain.varTypes Try.prog) (ds ++ gs)).all (· ≤ reachBytes) = true := hsz0
  have hval : ∀ (j : Nat) t v, Try.f7.params[j]? = some t → args[j]? = some v → Value.okWide Try.prog W .any base t v := hval0
  have hW' := hW
  obtain ⟨p, q, hA0, hV, rfl, hfz, hnd⟩ := hW
  have hA : DataW.TrodAll enc Try.prog W 0 (fun _ => true) true Try.f7.params.toList args.toList ds p := hA0
  rw [Try.params7] at hA hval hsz
  obtain ⟨v0, vs0, d0, ds0, p0, q0, hargs, rfl, rfl, h0, r0⟩ := trodAll_cons hA
  obtain ⟨v1, vs1, d1, ds1, p1, q1, rfl, rfl, rfl, h1, r1⟩ := trodAll_cons r0
  obtain ⟨v2, vs2, d2, ds2, p2, q2, rfl, rfl, rfl, h2, r2⟩ := trodAll_cons r1
  obtain ⟨rfl, rfl, rfl⟩ := trodAll_nil r2
  obtain rfl : args = #[v0, v1, v2] := by cases args; simp_all
  obtain ⟨rfl, rfl⟩ := trodVars_none hV
  obtain ⟨a0, rfl, rfl, rfl, y0⟩ := open_string Try.underlying9 (hval 0 9 v0 rfl rfl) h0
  have w0 : a0.size ≤ 140737488351232 := by
    have z := sized_string hsz (j := 0) (t := 9) rfl rfl
    rw [Array.length_toList] at z
    exact z
  obtain ⟨cs1, rfl, hcs1⟩ := Go.Proofs.YtimcafohmahapaaO.okWide_array Try.underlying49 (hval 1 49 v1 rfl rfl)
  have k1 := h1
  have lt1 : ∀ x ∈ p1, x.block < W.heap.size := by obtain ⟨m, hm⟩ := k1; exact DataW.trod_lt m _ _ _ hm
  obtain ⟨x1, hx1, ok1⟩ := Go.Proofs.YtimcafohmahapaaO.opensW_arg (d := (Go.Proofs.YtimcafohmahapaaW.PrintWords.Kd.arr 2 Go.Proofs.YtimcafohmahapaaW.PrintWords.Kd.string (by decide))) (Go.Proofs.YtimcafohmahapaaO.opensW_array (by decide) Try.underlying49 (Go.Proofs.YtimcafohmahapaaO.opensW_string Try.underlying9) (by kernel_rfl) (by kernel_rfl)) hsz (j := 1) (t := 49) rfl rfl h1
  obtain ⟨x1_0, x1_1, c1_0, c1_1, rfl, rfl, K1_0, K1_1⟩ := Go.Proofs.YtimcafohmahapaaO.arr2 rfl hx1
  obtain rfl := (List.cons.inj K1_0).1
  obtain rfl := (List.cons.inj K1_1).1
  obtain ⟨a2, rfl, rfl, rfl, w2⟩ := open_int Try.underlying3 (hval 2 3 v2 rfl rfl) h2
  clear hA0 hval0 hsz0 hsz
  refine (Go.Proofs.YtimcafohmahapaaR.is_tells (Go.Proofs.Ytimcafohmahapaa.F.DeltaBack_c W a0 x1_0 x1_1 a2 w0 (ok1 _ (by simp)) (ok1 _ (by simp)) w2)).mono fun e W' ⟨he, bel⟩ => ?_
  subst he
  exact ⟨_, rfl, _, _, _, [], _, [], hW', trodAll_mk1 (shut_bool Try.underlying4 _), (trodAll_cons_mk (shut_string Try.underlying9 y0) (trodAll_cons_mk (Below.trod laidOut (by kernel_rfl) (of_decide_eq_true (by kernel_rfl)) k1 bel lt1) (trodAll_cons_mk (shut_int Try.underlying3 w2) trodAll_mk0))), rfl, bel.frame _, fun h => by cases h⟩
theorem over : Rows.deltaBackRow.holds Try.pinned (OpenSpec.ofChange Rows.deltaBackSpec) :=
  OpenClaim.holds_of_wide 7 Try.f7 rfl rfl rfl rfl rfl rfl rfl ⟨rfl, rfl, rfl, rfl, rfl⟩ rfl rfl rfl rfl rfl (by kernel_rfl) Try.func7 (by kernel_rfl)
    (of_decide_eq_true (by kernel_rfl)) (by unfold Func.isWrapper; first | (rw [if_pos (by decide +kernel)]; kernel_rfl) | (rw [if_neg (by decide +kernel)]; exact ⟨rfl, rfl⟩))
    (fun os started H enc _ => lifted os started H enc)
end Go.Proofs.Ytimcafohmahapaa.deltaBack
namespace Go.Proofs.Ytimcafohmahapaa
/-- The row, under a short name, for the claim. -/
theorem deltaBack_holds : Rows.DeltaBackSaid := deltaBack.over
#print axioms deltaBack_holds
end Go.Proofs.Ytimcafohmahapaa
