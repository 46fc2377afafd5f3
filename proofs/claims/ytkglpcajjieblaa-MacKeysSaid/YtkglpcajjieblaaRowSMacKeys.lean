/- The row of the law MacKeys: for every input the law's call returns true, whatever memory; no condition. Out of the contract MacKeys_c. -/
import Derived.Test.YtkglpcajjieblaaSC
import Derived.Test.YtkglpcajjieblaaRows
import Derived.WalkKit
import Derived.ProofKit
import Derived.OpenShut
import Derived.ShutString
import Derived.ChangeOld
import Derived.Below
import Derived.SizedLaws
import Derived.Test.YtkglpcajjieblaaWSized

-- MacKeys
namespace Go.Proofs.Ytkglpcajjieblaa.F
open Go Go.RowKit Go.Proofs.YtkglpcajjieblaaW.PrintWords Go.Proofs.YtkglpcajjieblaaW.PrintLast Go.Proofs.YtkglpcajjieblaaW.PrintMore Go.Proofs.YtkglpcajjieblaaR
attribute [local go_sem] max2_int min2_int max_two min_two
set_option linter.unusedSimpArgs false
set_option linter.unusedVariables false
set_option maxRecDepth 100000
theorem keyL_sha (k : List Int) (h : 64 < k.length) : keyL (shaL k) = keyL k := by
  unfold keyL
  rw [if_pos h, if_neg (by rw [shaL_len]; omega)]
theorem sealL_sha (k m : List Int) (h : 64 < k.length) : sealL (shaL k) m = sealL k m := by
  unfold sealL turnedL; rw [keyL_sha k h]
theorem fill_noughts (k : List Int) (n : Nat) (h : k.length + n ≤ 64) : fill64 (k ++ List.replicate n 0) = fill64 k := by
  unfold fill64
  rw [List.append_assoc, List.length_append, List.length_replicate, List.replicate_append_replicate]
  congr 2
  omega
theorem sealL_noughts (k m : List Int) (n : Nat) (h : k.length + n ≤ 64) : sealL (k ++ List.replicate n 0) m = sealL k m := by
  unfold sealL turnedL keyL
  rw [if_neg (by rw [List.length_append, List.length_replicate]; omega), if_neg (by omega), fill_noughts k n h]
set_option maxHeartbeats 2000000 in
theorem MacKeys_c (w : World) (key message : ByteArray) (n : Int) (hk : key.size ≤ 140737488351232) (hm : message.size ≤ 140737488351232) (hn : (Lit.int .i64 n).wf = true) :
    Calls Try.prog 7 #[.string key, .string message, .int .i64 n] w (Tells w (Is (.bool true))) := by
  clear hn
  obtain ⟨b, hb, hsm⟩ := small_c [key, message] (by intro s hs; simp at hs; rcases hs with rfl | rfl <;> assumption)
  have hs0 := hsm _ _ 2 2 (two_C w key message) rfl (Nat.le_refl _)
  have HS0 := Lib.hid hs0
  by_cases hgo : b = true ∧ 0 ≤ n ∧ n ≤ 64
  · obtain ⟨rfl, hn0, hn64⟩ := hgo
    have hsum := (hb rfl).1
    simp only [List.map_cons, List.map_nil, List.sum_cons, List.sum_nil] at hsum
    obtain ⟨m, rfl⟩ := Int.eq_ofNat_of_zero_le hn0
    have hm64 : m ≤ 64 := by omega
    have d1 : decide ((m : Int) < 0) = false := decide_eq_false (by omega)
    have d2 : decide (64 < (m : Int)) = false := decide_eq_false (by omega)
    have d2' : decide (64 < m) = false := decide_eq_false (by omega)
    obtain ⟨S, hS⟩ : ∃ S, S = strOfNums (sealL (bytesOf key) (bytesOf message)) := ⟨_, rfl⟩
    have h1 := fun w => seal_c w (bytesOf key) (bytesOf message) (bytesOf_bytes _) (bytesOf_bytes _) (by rw [bytesOf_length]; omega) (by rw [bytesOf_length]; omega)
    simp only [← hS, str_bytes] at h1
    have H1 := Lib.hid h1
    obtain ⟨ks, hks⟩ : ∃ ks, ks = key.size := ⟨_, rfl⟩
    have hks' := hks.symm
    have hks3 : ks ≤ 3000 := by omega
    by_cases hbig : 64 < ks
    · have d3 : decide (64 < ks) = true := decide_eq_true hbig
      have d3' : decide (64 < (ks : Int)) = true := decide_eq_true (by omega)
      obtain ⟨D, hD⟩ : ∃ D, D = strOfNums (shaL (bytesOf key)) := ⟨_, rfl⟩
      have hby := fun W => print_bytes (P := Try.prog) 9 36 5 Try.underlying9 Try.underlying36 Try.underlying5 key W
      have h2 := fun (W : World) => sum1_c (Lib.bytesWorld W 5 key) (some ⟨W.heap.size, 0, none⟩) (grownCap W ks 0 5) ks (bytesOf key) (C_of (by
        have h := bytes_reads W 5 key (by omega)
        rw [hks'] at h; exact h)) (by rw [bytesOf_length, hks']) (grownCap_ge _ _ _ _) (by omega) (bytesOf_bytes key)
      have h3 := fun w => seal_c w (shaL (bytesOf key)) (bytesOf message) (shaL_bytes _) (bytesOf_bytes _) (by rw [shaL_len]; omega) (by rw [bytesOf_length]; omega)
      rw [sealL_sha _ _ (by rw [bytesOf_length]; omega), ← hS, ← hD, str_bytes] at h3
      simp only [← hD] at h2
      rw [hks'] at hby
      have H2 := Lib.hid h2
      have H3 := Lib.hid h3
      have hbw : ∀ (W : World), Grew W (Lib.bytesWorld W 5 key) := fun W => bytes_below (Below.refl _ _) (Nat.le_refl _) _ _
      have HBW := Lib.hid hbw
      clear hk hm hb hsm hs0 hsum h1 h2 h3 hS hD hbw hks
      go_enter Try.func7, Try.ntmps7
      go_wp2_with fail
      refine HS0.out.mono ?_
      rintro e w1 ⟨_, rfl, rfl, hg1⟩
      go_wp2_with fail
      refine (H1.out w1).mono ?_
      rintro e w2 ⟨_, rfl, rfl, hg2⟩
      go_wp2_with fail
      refine (H2.out w2).mono ?_
      rintro e w3 ⟨_, rfl, rfl, hg3⟩
      go_wp2_with fail
      refine (H3.out w3).mono ?_
      rintro e w4 ⟨_, rfl, rfl, hg4⟩
      go_wp2_with fail
      refine (lives_c w4).mono ?_
      rintro e w5 ⟨_, rfl, rfl, hg5⟩
      go_wp2_with fail
      go_ret
      exact ⟨_, rfl, rfl, Grew.trans (Grew.trans (Grew.trans (Grew.trans (Grew.trans (Grew.trans (Grew.alloc _ _) hg1) hg2) (HBW.out w2)) hg3) hg4) hg5⟩
    · have d3 : decide (64 < ks) = false := decide_eq_false hbig
      have d3' : decide (64 < (ks : Int)) = false := decide_eq_false (by omega)
      obtain ⟨q, hq⟩ : ∃ q, q = ks + m := ⟨_, rfl⟩
      have e1 : IntKind.i64.wrap ((ks : Int) + (m : Int)) = (q : Int) := by rw [IntWalk.i64_in _ (by omega)]; omega
      by_cases hq64 : 64 < q
      · have d4 : decide (64 < q) = true := decide_eq_true hq64
        have d4' : decide (64 < (q : Int)) = true := decide_eq_true (by omega)
        clear hk hm hb hsm hs0 hsum h1 hS hks hq
        go_enter Try.func7, Try.ntmps7
        go_wp2_with fail
        refine HS0.out.mono ?_
        rintro e w1 ⟨_, rfl, rfl, hg1⟩
        go_wp2_with fail
        refine (H1.out w1).mono ?_
        rintro e w2 ⟨_, rfl, rfl, hg2⟩
        go_wp2_with fail
        refine (lives_c w2).mono ?_
        rintro e w3 ⟨_, rfl, rfl, hg3⟩
        go_wp2_with fail
        go_ret
        exact ⟨_, rfl, rfl, Grew.trans (Grew.trans (Grew.trans (Grew.alloc _ _) hg1) hg2) hg3⟩
      · have d4 : decide (64 < q) = false := decide_eq_false hq64
        have d4' : decide (64 < (q : Int)) = false := decide_eq_false (by omega)
        have h3 := fun w => seal_c w (bytesOf key ++ List.replicate m 0) (bytesOf message) (bytes_app (bytesOf_bytes _) (fun y hy => by have := List.eq_of_mem_replicate hy; omega)) (bytesOf_bytes _) (by rw [List.length_append, List.length_replicate, bytesOf_length]; omega) (by rw [bytesOf_length]; omega)
        rw [sealL_noughts _ _ _ (by rw [bytesOf_length]; omega), ← hS, str_bytes, ← str_append, str_bytes] at h3
        obtain ⟨Z, hZ⟩ : ∃ Z, Z = strOfNums (List.replicate m 0) := ⟨_, rfl⟩
        obtain ⟨K2, hK2⟩ : ∃ K2, K2 = key ++ Z := ⟨_, rfl⟩
        have hK2' := hK2.symm
        rw [← hZ, ← hK2] at h3
        have hz1 : ¬ (9223372036854775807 < ks + Z.size) := by rw [hZ, str_size, List.length_replicate]; omega
        have H3 := Lib.hid h3
        have HZ := Lib.hid hZ
        clear hk hm hb hsm hs0 hsum h1 h3 hS hks hq hZ hK2
        go_enter Try.func7, Try.ntmps7
        go_wp2_with fail
        refine HS0.out.mono ?_
        rintro e w1 ⟨_, rfl, rfl, hg1⟩
        go_wp2_with fail
        refine (H1.out w1).mono ?_
        rintro e w2 ⟨_, rfl, rfl, hg2⟩
        have hmk := print_make (P := Try.prog) 36 5 .u8 1 Try.underlying36 info5 (by decide) m (by omega)
        have hst := own_string (P := Try.prog) Try.underlying36 Try.underlying5 Try.underlying9 (own_made w2 w2.heap.size 5 .u8 m (Nat.le_refl _) (by omega))
        rw [← HZ.out] at hst
        go_wp2_with fail
        refine (H3.out _).mono ?_
        rintro e w4 ⟨_, rfl, rfl, hg4⟩
        go_wp2_with fail
        refine (lives_c w4).mono ?_
        rintro e w5 ⟨_, rfl, rfl, hg5⟩
        go_wp2_with fail
        go_ret
        exact ⟨_, rfl, rfl, Grew.trans (Grew.trans (Grew.trans (Grew.trans (Grew.trans (Grew.alloc _ _) hg1) hg2) (Grew.alloc _ _)) hg4) hg5⟩
  · have hgo2 : b = false ∨ (b = true ∧ n < 0) ∨ (b = true ∧ ¬ n < 0 ∧ 64 < n) := by
      cases b
      · exact .inl rfl
      · by_cases h1 : n < 0
        · exact .inr (.inl ⟨rfl, h1⟩)
        · exact .inr (.inr ⟨rfl, h1, by simp at hgo; omega⟩)
    clear hk hm hb hsm hs0 hgo
    rcases hgo2 with rfl | ⟨rfl, d1⟩ | ⟨rfl, d1, d2⟩
    all_goals
      go_enter Try.func7, Try.ntmps7
      go_wp2_with fail
      refine HS0.out.mono ?_
      rintro e w1 ⟨_, rfl, rfl, hg1⟩
      go_wp2_with fail
      refine (lives_c w1).mono ?_
      rintro e w2 ⟨_, rfl, rfl, hg2⟩
      go_wp2_with fail
      go_ret
      exact ⟨_, rfl, rfl, Grew.trans (Grew.trans (Grew.alloc _ _) hg1) hg2⟩
end Go.Proofs.Ytkglpcajjieblaa.F

-- RowMacKeys
namespace Go.Proofs.Ytkglpcajjieblaa.macKeys
open Go.ChangeShapes Go.WideShapes Go.ChangeAt Go.RowKit
open Go.ChangeMaps (open_string shut_string)
set_option linter.unusedVariables false
set_option linter.unusedSimpArgs false
theorem own : ownKnob Try.prog.godebug = none := by kernel_rfl
theorem laidOut : laidOutB Try.prog = true := by kernel_rfl
set_option maxRecDepth 100000 in
theorem lifted (os : Os) (started : os.Started) (H : Type) (enc : TypeId × Value → H) :
    ReturnsInHanded {} Try.checked os 7 .any (Rows.macKeysSpec.pre6 enc Try.prog Try.f7 Rows.macKeysRow.domain false) (Rows.macKeysSpec.post enc Try.prog Try.f7 false true false false) := by
  refine returnsInHanded_of_change_sized (C := Try.checked) own started (by kernel_rfl) Try.func7
    (ChangeSpec.witness6 (enc := enc) (C := Try.checked) false ⟨#[], #[.string ByteArray.empty, .string ByteArray.empty, .int .i64 0], []⟩ 8 (by kernel_rfl) (by kernel_rfl) (by kernel_rfl) (by kernel_rfl)) ?_
  intro W base args ds gs before hval0 hW hcnd hsz0 _
  have hsz : (DataW.weightsEach Try.prog (Try.f7.params.toList ++ Rows.macKeysSpec.plain.varTypes Try.prog) (ds ++ gs)).all (· ≤ reachBytes) = true := hsz0
  have hval : ∀ (j : Nat) t v, Try.f7.params[j]? = some t → args[j]? = some v → Value.okWide Try.prog W .any base t v := hval0
  have hW' := hW
  obtain ⟨p, q, hA0, hV, rfl, hfz, hnd⟩ := hW
  have hA : DataW.TrodAll enc Try.prog W 0 (fun _ => true) true Try.f7.params.toList args.toList ds p := hA0
  rw [Try.params7] at hA hval hsz
  obtain ⟨v0, vs0, d0, ds0, p0, q0, hargs, rfl, rfl, h0, r0⟩ := trodAll_cons hA
  obtain ⟨v1, vs1, d1, ds1, p1, q1, rfl, rfl, rfl, h1, r1⟩ := trodAll_cons r0
  obtain ⟨v2, vs2, d2, ds2, p2, q2, rfl, rfl, rfl, h2, r2⟩ := trodAll_cons r1
  obtain ⟨rfl, rfl, rfl⟩ := trodAll_nil r2
  obtain rfl : args = #[v0, v1, v2] := by cases args; simp_all
  obtain ⟨rfl, rfl⟩ := trodVars_none hV
  obtain ⟨a0, rfl, rfl, rfl, y0⟩ := open_string Try.underlying9 (hval 0 9 v0 rfl rfl) h0
  have w0 : a0.size ≤ 140737488351232 := by
    have z := sized_string hsz (j := 0) (t := 9) rfl rfl
    rw [Array.length_toList] at z
    exact z
  obtain ⟨a1, rfl, rfl, rfl, y1⟩ := open_string Try.underlying9 (hval 1 9 v1 rfl rfl) h1
  have w1 : a1.size ≤ 140737488351232 := by
    have z := sized_string hsz (j := 1) (t := 9) rfl rfl
    rw [Array.length_toList] at z
    exact z
  obtain ⟨a2, rfl, rfl, rfl, w2⟩ := open_int Try.underlying3 (hval 2 3 v2 rfl rfl) h2
  clear hA0 hval0 hsz0 hsz
  refine (Go.Proofs.YtkglpcajjieblaaR.is_tells (Go.Proofs.Ytkglpcajjieblaa.F.MacKeys_c W a0 a1 a2 w0 w1 w2)).mono fun e W' ⟨he, bel⟩ => ?_
  subst he
  exact ⟨_, rfl, _, _, _, [], _, [], hW', trodAll_mk1 (shut_bool Try.underlying4 _), (trodAll_cons_mk (shut_string Try.underlying9 y0) (trodAll_cons_mk (shut_string Try.underlying9 y1) (trodAll_cons_mk (shut_int Try.underlying3 w2) trodAll_mk0))), rfl, bel.frame _, fun h => by cases h⟩
theorem over : Rows.macKeysRow.holds Try.pinned (OpenSpec.ofChange Rows.macKeysSpec) :=
  OpenClaim.holds_of_wide 7 Try.f7 rfl rfl rfl rfl rfl rfl rfl ⟨rfl, rfl, rfl, rfl, rfl⟩ rfl rfl rfl rfl rfl (by kernel_rfl) Try.func7 (by kernel_rfl)
    (of_decide_eq_true (by kernel_rfl)) (by unfold Func.isWrapper; first | (rw [if_pos (by decide +kernel)]; kernel_rfl) | (rw [if_neg (by decide +kernel)]; exact ⟨rfl, rfl⟩))
    (fun os started H enc _ => lifted os started H enc)
end Go.Proofs.Ytkglpcajjieblaa.macKeys
namespace Go.Proofs.Ytkglpcajjieblaa
/-- The row, under a short name, for the claim. -/
theorem macKeys_holds : Rows.MacKeysSaid := macKeys.over
#print axioms macKeys_holds
end Go.Proofs.Ytkglpcajjieblaa
