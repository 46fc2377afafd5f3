/- The row of the law MacDerives: for every input the law's call returns true, whatever memory; no condition. Out of the contract MacDerives_c. -/
import Derived.Test.YtkglpcajjieblaaSC
import Derived.Test.YtkglpcajjieblaaRows
import Derived.WalkKit
import Derived.ProofKit
import Derived.OpenShut
import Derived.ShutString
import Derived.ChangeOld
import Derived.Below
import Derived.SizedLaws
import Derived.Test.YtkglpcajjieblaaWSized

-- MacDerives
namespace Go.Proofs.Ytkglpcajjieblaa.F
open Go Go.RowKit Go.Proofs.YtkglpcajjieblaaW.PrintWords Go.Proofs.YtkglpcajjieblaaW.PrintLast Go.Proofs.YtkglpcajjieblaaW.PrintMore Go.Proofs.YtkglpcajjieblaaR
attribute [local go_sem] max2_int min2_int max_two min_two
set_option linter.unusedSimpArgs false
set_option linter.unusedVariables false
set_option maxRecDepth 100000
set_option maxHeartbeats 2000000 in
theorem MacDerives_c (w : World) (key label : ByteArray) (n : Int) (hk : key.size ≤ 140737488351232) (hm : label.size ≤ 140737488351232) (hn : (Lit.int .i64 n).wf = true) :
    Calls Try.prog 4 #[.string key, .string label, .int .i64 n] w (Tells w (Is (.bool true))) := by
  clear hn
  obtain ⟨b, hb, hsm⟩ := small_c [key, label] (by intro s hs; simp at hs; rcases hs with rfl | rfl <;> assumption)
  have hs0 := hsm _ _ 2 2 (two_C w key label) rfl (Nat.le_refl _)
  have HS0 := Lib.hid hs0
  have hgo : b = false ∨ (b = true ∧ decide (700 < n) = true ∧ decide (n ≤ 8160) = true) ∨ (b = true ∧ (n ≤ 700 ∨ 8160 < n)) := by
    cases b
    · exact .inl rfl
    · by_cases h1 : 700 < n
      · by_cases h2 : n ≤ 8160
        · exact .inr (.inl ⟨rfl, decide_eq_true h1, decide_eq_true h2⟩)
        · exact .inr (.inr ⟨rfl, .inr (by omega)⟩)
      · exact .inr (.inr ⟨rfl, .inl (by omega)⟩)
  rcases hgo with rfl | ⟨rfl, d1, d2⟩ | ⟨rfl, hn⟩
  · clear hk hm hb hsm hs0
    go_enter Try.func4, Try.ntmps4
    go_wp2_with fail
    refine HS0.out.mono ?_
    rintro e w1 ⟨_, rfl, rfl, hg1⟩
    go_wp2_with fail
    refine (lives_c w1).mono ?_
    rintro e w2 ⟨_, rfl, rfl, hg2⟩
    go_wp2_with fail
    go_ret
    exact ⟨_, rfl, rfl, Grew.trans (Grew.trans (Grew.alloc _ _) hg1) hg2⟩
  · clear hk hm hb hsm hs0
    have d3 : (700 : Int) < n := of_decide_eq_true d1
    have d4 : n ≤ (8160 : Int) := of_decide_eq_true d2
    go_enter Try.func4, Try.ntmps4
    go_wp2_with fail
    refine HS0.out.mono ?_
    rintro e w1 ⟨_, rfl, rfl, hg1⟩
    go_wp2_with fail
    refine (lives_c w1).mono ?_
    rintro e w2 ⟨_, rfl, rfl, hg2⟩
    go_wp2_with fail
    go_ret
    exact ⟨_, rfl, rfl, Grew.trans (Grew.trans (Grew.alloc _ _) hg1) hg2⟩
  · have hsum := (hb rfl).1
    simp only [List.map_cons, List.map_nil, List.sum_cons, List.sum_nil] at hsum
    obtain ⟨R, E, h1, h2⟩ : ∃ (R : ByteArray) (E : Int), (∀ w, Calls Try.prog 14 #[.string key, .string label, .int .i64 n] w (Tells w (Is (.tuple #[.string R, .int .i64 E])))) ∧ (∀ w, Calls Try.prog 15 #[.string key, .string label, .int .i64 n] w (Tells w (Is (.tuple #[.string R, .int .i64 E])))) := by
      by_cases hneg : n < 0 ∨ 8160 < n
      · exact ⟨_, 9, fun w => derive_no w key label n hneg, fun w => rderive_no w key label n hneg⟩
      · obtain ⟨m, rfl⟩ := Int.eq_ofNat_of_zero_le (by omega : 0 ≤ n)
        have h1 := fun w => derive_c w (bytesOf key) (bytesOf label) m (bytesOf_bytes _) (bytesOf_bytes _) (by rw [bytesOf_length]; omega) (by rw [bytesOf_length]; omega) (by omega)
        have h2 := fun w => rderive_c w (bytesOf key) (bytesOf label) m (bytesOf_bytes _) (bytesOf_bytes _) (by rw [bytesOf_length]; omega) (by rw [bytesOf_length]; omega) (by omega)
        simp only [str_bytes] at h1 h2
        exact ⟨_, 0, h1, h2⟩
    have H1 := Lib.hid h1
    have H2 := Lib.hid h2
    have hnn : (decide (700 < n) = false ∧ ¬ 700 < n) ∨ ((decide (700 < n) = true ∧ 700 < n) ∧ decide (n ≤ 8160) = false ∧ ¬ n ≤ 8160) := by
      by_cases h : 700 < n
      · exact .inr ⟨⟨decide_eq_true h, h⟩, decide_eq_false (by omega), by omega⟩
      · exact .inl ⟨decide_eq_false h, h⟩
    clear hk hm hb hsm hs0 hsum h1 h2 hn
    rcases hnn with ⟨d1, d3⟩ | ⟨⟨d1, d3⟩, d2, d4⟩
    all_goals
      go_enter Try.func4, Try.ntmps4
      go_wp2_with fail
      refine HS0.out.mono ?_
      rintro e w1 ⟨_, rfl, rfl, hg1⟩
      go_wp2_with fail
      refine (H1.out w1).mono ?_
      rintro e w2 ⟨_, rfl, rfl, hg2⟩
      go_wp2_with fail
      refine (H2.out w2).mono ?_
      rintro e w3 ⟨_, rfl, rfl, hg3⟩
      go_wp2_with fail
      refine (lives_c w3).mono ?_
      rintro e w4 ⟨_, rfl, rfl, hg4⟩
      go_wp2_with fail
      go_ret
      exact ⟨_, rfl, rfl, Grew.trans (Grew.trans (Grew.trans (Grew.trans (Grew.alloc _ _) hg1) hg2) hg3) hg4⟩
end Go.Proofs.Ytkglpcajjieblaa.F

-- RowMacDerives
namespace Go.Proofs.Ytkglpcajjieblaa.macDerives
open Go.ChangeShapes Go.WideShapes Go.ChangeAt Go.RowKit
open Go.ChangeMaps (open_string shut_string)
set_option linter.unusedVariables false
set_option linter.unusedSimpArgs false
theorem own : ownKnob Try.prog.godebug = none := by kernel_rfl
theorem laidOut : laidOutB Try.prog = true := by kernel_rfl
set_option maxRecDepth 100000 in
theorem lifted (os : Os) (started : os.Started) (H : Type) (enc : TypeId × Value → H) :
    ReturnsInHanded {} Try.checked os 4 .any (Rows.macDerivesSpec.pre6 enc Try.prog Try.f4 Rows.macDerivesRow.domain false) (Rows.macDerivesSpec.post enc Try.prog Try.f4 false true false false) := by
  refine returnsInHanded_of_change_sized (C := Try.checked) own started (by kernel_rfl) Try.func4
    (ChangeSpec.witness6 (enc := enc) (C := Try.checked) false ⟨#[], #[.string ByteArray.empty, .string ByteArray.empty, .int .i64 0], []⟩ 8 (by kernel_rfl) (by kernel_rfl) (by kernel_rfl) (by kernel_rfl)) ?_
  intro W base args ds gs before hval0 hW hcnd hsz0 _
  have hsz : (DataW.weightsEach Try.prog (Try.f4.params.toList ++ Rows.macDerivesSpec.plain.varTypes Try.prog) (ds ++ gs)).all (· ≤ reachBytes) = true := hsz0
  have hval : ∀ (j : Nat) t v, Try.f4.params[j]? = some t → args[j]? = some v → Value.okWide Try.prog W .any base t v := hval0
  have hW' := hW
  obtain ⟨p, q, hA0, hV, rfl, hfz, hnd⟩ := hW
  have hA : DataW.TrodAll enc Try.prog W 0 (fun _ => true) true Try.f4.params.toList args.toList ds p := hA0
  rw [Try.params4] at hA hval hsz
  obtain ⟨v0, vs0, d0, ds0, p0, q0, hargs, rfl, rfl, h0, r0⟩ := trodAll_cons hA
  obtain ⟨v1, vs1, d1, ds1, p1, q1, rfl, rfl, rfl, h1, r1⟩ := trodAll_cons r0
  obtain ⟨v2, vs2, d2, ds2, p2, q2, rfl, rfl, rfl, h2, r2⟩ := trodAll_cons r1
  obtain ⟨rfl, rfl, rfl⟩ := trodAll_nil r2
  obtain rfl : args = #[v0, v1, v2] := by cases args; simp_all
  obtain ⟨rfl, rfl⟩ := trodVars_none hV
  obtain ⟨a0, rfl, rfl, rfl, y0⟩ := open_string Try.underlying9 (hval 0 9 v0 rfl rfl) h0
  have w0 : a0.size ≤ 140737488351232 := by
    have z := sized_string hsz (j := 0) (t := 9) rfl rfl
    rw [Array.length_toList] at z
    exact z
  obtain ⟨a1, rfl, rfl, rfl, y1⟩ := open_string Try.underlying9 (hval 1 9 v1 rfl rfl) h1
  have w1 : a1.size ≤ 140737488351232 := by
    have z := sized_string hsz (j := 1) (t := 9) rfl rfl
    rw [Array.length_toList] at z
    exact z
  obtain ⟨a2, rfl, rfl, rfl, w2⟩ := open_int Try.underlying3 (hval 2 3 v2 rfl rfl) h2
  clear hA0 hval0 hsz0 hsz
  refine (Go.Proofs.YtkglpcajjieblaaR.is_tells (Go.Proofs.Ytkglpcajjieblaa.F.MacDerives_c W a0 a1 a2 w0 w1 w2)).mono fun e W' ⟨he, bel⟩ => ?_
  subst he
  exact ⟨_, rfl, _, _, _, [], _, [], hW', trodAll_mk1 (shut_bool Try.underlying4 _), (trodAll_cons_mk (shut_string Try.underlying9 y0) (trodAll_cons_mk (shut_string Try.underlying9 y1) (trodAll_cons_mk (shut_int Try.underlying3 w2) trodAll_mk0))), rfl, bel.frame _, fun h => by cases h⟩
theorem over : Rows.macDerivesRow.holds Try.pinned (OpenSpec.ofChange Rows.macDerivesSpec) :=
  OpenClaim.holds_of_wide 4 Try.f4 rfl rfl rfl rfl rfl rfl rfl ⟨rfl, rfl, rfl, rfl, rfl⟩ rfl rfl rfl rfl rfl (by kernel_rfl) Try.func4 (by kernel_rfl)
    (of_decide_eq_true (by kernel_rfl)) (by unfold Func.isWrapper; first | (rw [if_pos (by decide +kernel)]; kernel_rfl) | (rw [if_neg (by decide +kernel)]; exact ⟨rfl, rfl⟩))
    (fun os started H enc _ => lifted os started H enc)
end Go.Proofs.Ytkglpcajjieblaa.macDerives
namespace Go.Proofs.Ytkglpcajjieblaa
/-- The row, under a short name, for the claim. -/
theorem macDerives_holds : Rows.MacDerivesSaid := macDerives.over
#print axioms macDerives_holds
end Go.Proofs.Ytkglpcajjieblaa
