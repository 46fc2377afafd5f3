/- The row of the law SignOnes: for every input the law's call returns true, whatever memory; no condition. Out of the contract SignOnes_c. -/
import Derived.Test.YtkapekndfnefeaaSC
import Derived.Test.YtkapekndfnefeaaRows
import Derived.WalkKit
import Derived.ProofKit
import Derived.OpenShut
import Derived.ShutString
import Derived.ChangeOld
import Derived.Below
import Derived.SizedLaws
import Derived.Test.YtkapekndfnefeaaWSized

-- SignOnes
namespace Go.Proofs.Ytkapekndfnefeaa.F
open Go Go.RowKit Go.Proofs.YtkapekndfnefeaaW.PrintWords Go.Proofs.YtkapekndfnefeaaW.PrintLast Go.Proofs.YtkapekndfnefeaaW.PrintMore Go.Proofs.YtkapekndfnefeaaM Go.Proofs.YtkapekndfnefeaaR
attribute [local go_sem] max2_int min2_int max_two min_two
set_option linter.unusedSimpArgs false
set_option linter.unusedVariables false
set_option maxRecDepth 100000
set_option maxHeartbeats 2000000 in
theorem SignOnes_c (w : World) (key block : ByteArray) (hk : key.size ≤ 140737488351232) (hb : block.size ≤ 140737488351232) :
    Calls Try.prog 3 #[.string key, .string block] w (Tells w (Is (.bool true))) := by
  obtain ⟨ks, hks⟩ : ∃ ks, ks = key.size := ⟨_, rfl⟩
  obtain ⟨bs, hbs⟩ : ∃ bs, bs = block.size := ⟨_, rfl⟩
  have hks' := hks.symm
  have hbs' := hbs.symm
  by_cases hgo : ks ≤ 1000 ∧ bs ≤ 3000
  · have h1 := fun w => one_c w key block (by omega) (by omega)
    have h2 := fun w => rone_c w key block (by omega) (by omega)
    obtain ⟨P, hP⟩ : ∃ P, P = strongS key block := ⟨_, rfl⟩
    obtain ⟨wk, hwk⟩ : ∃ wk, wk = weak (bytesOf block) := ⟨_, rfl⟩
    rw [← hP, ← hwk] at h1 h2
    have H1 := Lib.hid h1
    have H2 := Lib.hid h2
    have d1 : decide (1000 < ks) = false := decide_eq_false (by omega)
    have d1' : decide (1000 < (ks : Int)) = false := decide_eq_false (by omega)
    have d2 : decide (3000 < bs) = false := decide_eq_false (by omega)
    have d2' : decide (3000 < (bs : Int)) = false := decide_eq_false (by omega)
    have heq : ∀ w', (Op.equalIn 10000 25 (.agg #[.int .u32 wk, .string P]) (.agg #[.int .u32 wk, .string P])).run Try.prog w' = .ok true w' := fun w' => by
      have h := eqA25 9998 w' wk wk P P
      simpa using h
    clear hk hb h1 h2 hP hwk hks hbs hgo
    go_enter Try.func3, Try.ntmps3
    go_wp2_with fail
    refine (H1.out w).mono ?_
    rintro e w1 ⟨_, rfl, rfl, hg1⟩
    go_wp2_with fail
    refine (H2.out w1).mono ?_
    rintro e w2 ⟨_, rfl, rfl, hg2⟩
    go_wp2_with fail
    refine (lives_c w2).mono ?_
    rintro e w3 ⟨_, rfl, rfl, hg3⟩
    go_wp2_with fail
    go_ret
    exact ⟨_, rfl, rfl, Grew.trans (Grew.trans hg1 hg2) hg3⟩
  · have hgo2 : (decide (1000 < ks) = true ∧ decide (1000 < (ks : Int)) = true ∧ 1000 < ks) ∨ ((decide (1000 < ks) = false ∧ decide (1000 < (ks : Int)) = false ∧ ¬ 1000 < ks) ∧ decide (3000 < bs) = true ∧ decide (3000 < (bs : Int)) = true ∧ 3000 < bs) := by
      by_cases h : 1000 < ks
      · exact .inl ⟨decide_eq_true h, decide_eq_true (by omega), h⟩
      · have h2 : 3000 < bs := by omega
        exact .inr ⟨⟨decide_eq_false h, decide_eq_false (by omega), h⟩, decide_eq_true h2, decide_eq_true (by omega), h2⟩
    clear hk hb hks hbs hgo
    rcases hgo2 with ⟨d1, d2, d3⟩ | ⟨⟨d1, d2, d3⟩, d4, d5, d6⟩
    all_goals
      go_enter Try.func3, Try.ntmps3
      go_wp2_with fail
      refine (lives_c _).mono ?_
      rintro e w2 ⟨_, rfl, rfl, hg2⟩
      go_wp2_with fail
      go_ret
      exact ⟨_, rfl, rfl, hg2⟩
end Go.Proofs.Ytkapekndfnefeaa.F

-- RowSignOnes
namespace Go.Proofs.Ytkapekndfnefeaa.signOnes
open Go.ChangeShapes Go.WideShapes Go.ChangeAt Go.RowKit
open Go.ChangeMaps (open_string shut_string)
set_option linter.unusedVariables false
set_option linter.unusedSimpArgs false
theorem own : ownKnob Try.prog.godebug = none := by kernel_rfl
theorem laidOut : laidOutB Try.prog = true := by kernel_rfl
set_option maxRecDepth 100000 in
theorem lifted (os : Os) (started : os.Started) (H : Type) (enc : TypeId × Value → H) :
    ReturnsInHanded {} Try.checked os 3 .any (Rows.signOnesSpec.pre6 enc Try.prog Try.f3 Rows.signOnesRow.domain false) (Rows.signOnesSpec.post enc Try.prog Try.f3 false true false false) := by
  refine returnsInHanded_of_change_sized (C := Try.checked) own started (by kernel_rfl) Try.func3
    (ChangeSpec.witness6 (enc := enc) (C := Try.checked) false ⟨#[], #[.string ByteArray.empty, .string ByteArray.empty], []⟩ 8 (by kernel_rfl) (by kernel_rfl) (by kernel_rfl) (by kernel_rfl)) ?_
  intro W base args ds gs before hval0 hW hcnd hsz0 _
  have hsz : (DataW.weightsEach Try.prog (Try.f3.params.toList ++ Rows.signOnesSpec.plain.varTypes Try.prog) (ds ++ gs)).all (· ≤ reachBytes) = true := hsz0
  have hval : ∀ (j : Nat) t v, Try.f3.params[j]? = some t → args[j]? = some v → Value.okWide Try.prog W .any base t v := hval0
  have hW' := hW
  obtain ⟨p, q, hA0, hV, rfl, hfz, hnd⟩ := hW
  have hA : DataW.TrodAll enc Try.prog W 0 (fun _ => true) true Try.f3.params.toList args.toList ds p := hA0
  rw [Try.params3] at hA hval hsz
  obtain ⟨v0, vs0, d0, ds0, p0, q0, hargs, rfl, rfl, h0, r0⟩ := trodAll_cons hA
  obtain ⟨v1, vs1, d1, ds1, p1, q1, rfl, rfl, rfl, h1, r1⟩ := trodAll_cons r0
  obtain ⟨rfl, rfl, rfl⟩ := trodAll_nil r1
  obtain rfl : args = #[v0, v1] := by cases args; simp_all
  obtain ⟨rfl, rfl⟩ := trodVars_none hV
  obtain ⟨a0, rfl, rfl, rfl, y0⟩ := open_string Try.underlying9 (hval 0 9 v0 rfl rfl) h0
  have w0 : a0.size ≤ 140737488351232 := by
    have z := sized_string hsz (j := 0) (t := 9) rfl rfl
    rw [Array.length_toList] at z
    exact z
  obtain ⟨a1, rfl, rfl, rfl, y1⟩ := open_string Try.underlying9 (hval 1 9 v1 rfl rfl) h1
  have w1 : a1.size ≤ 140737488351232 := by
    have z := sized_string hsz (j := 1) (t := 9) rfl rfl
    rw [Array.length_toList] at z
    exact z
  clear hA0 hval0 hsz0 hsz
  refine (Go.Proofs.YtkapekndfnefeaaR.is_tells (Go.Proofs.Ytkapekndfnefeaa.F.SignOnes_c W a0 a1 w0 w1)).mono fun e W' ⟨he, bel⟩ => ?_
  subst he
  exact ⟨_, rfl, _, _, _, [], _, [], hW', trodAll_mk1 (shut_bool Try.underlying4 _), (trodAll_cons_mk (shut_string Try.underlying9 y0) (trodAll_cons_mk (shut_string Try.underlying9 y1) trodAll_mk0)), rfl, bel.frame _, fun h => by cases h⟩
theorem over : Rows.signOnesRow.holds Try.pinned (OpenSpec.ofChange Rows.signOnesSpec) :=
  OpenClaim.holds_of_wide 3 Try.f3 rfl rfl rfl rfl rfl rfl rfl ⟨rfl, rfl, rfl, rfl, rfl⟩ rfl rfl rfl rfl rfl (by kernel_rfl) Try.func3 (by kernel_rfl)
    (of_decide_eq_true (by kernel_rfl)) (by unfold Func.isWrapper; first | (rw [if_pos (by decide +kernel)]; kernel_rfl) | (rw [if_neg (by decide +kernel)]; exact ⟨rfl, rfl⟩))
    (fun os started H enc _ => lifted os started H enc)
end Go.Proofs.Ytkapekndfnefeaa.signOnes
namespace Go.Proofs.Ytkapekndfnefeaa
/-- The row, under a short name, for the claim. -/
theorem signOnes_holds : Rows.SignOnesSaid := signOnes.over
#print axioms signOnes_holds
end Go.Proofs.Ytkapekndfnefeaa
