/- The row of the law LzBack: for every input the law's call returns true, whatever memory; no condition. Out of the contract LzBack_c. -/
import Derived.Test.YtehbebpemnanoaaSA
import Derived.Lib.Hide
import Derived.Test.YtehbebpemnanoaaSC
import Derived.Test.YtehbebpemnanoaaRows
import Derived.WalkKit
import Derived.ProofKit
import Derived.OpenShut
import Derived.ShutString
import Derived.ChangeOld
import Derived.Below
import Derived.SizedLaws
import Derived.Test.YtehbebpemnanoaaWSized

-- LzR
namespace Go.Proofs.Ytehbebpemnanoaa.F
open Go.RowKit Go.Proofs.YtehbebpemnanoaaW.PrintWords Go.Proofs.YtehbebpemnanoaaW.PrintLast Go.Proofs.YtehbebpemnanoaaW.PrintMore Go Go.Proofs.YtehbebpemnanoaaR
attribute [local go_sem] max2_int min2_int max_two min_two max_three min_three max_four min_four   -- for this text's walks alone
set_option linter.unusedVariables false
set_option linter.unusedSimpArgs false

/-! ### strongroomref18_Tokens: function 17 -/
mutual
def strongroomref18_Tokens.j0 : Nat → ByteArray → Int → Int → Bool → Option ((List (S46)) × ByteArray × Bool)
  | 0, _, _, _, _ => none
  | k + 1, x0, x5, x6, x26 => if x26 = true then (some (([] : List (S46)), (⟨#[]⟩ : ByteArray), false)) else (strongroomref18_Tokens.l0 k x0 x5 x6 ([] : List (S46)) ([] : List Int))
def strongroomref18_Tokens.l0 : Nat → ByteArray → Int → Int → List (S46) → List Int → Option ((List (S46)) × ByteArray × Bool)
  | 0, _, _, _, _, _ => none
  | k + 1, x0, x5, x6, x8, x9 => if x6 < (x0.size : Int) then (if 0 ≤ x6 then (if (wrap64 (bt x0 x6)) < 128 then (if (wrap64 ((wrap64 (x6 + (wrap64 (bt x0 x6)))) + 2)) > (x0.size : Int) then (some (([] : List (S46)), (⟨#[]⟩ : ByteArray), false)) else (if 0 ≤ (wrap64 (x6 + 1)) then (if (wrap64 (x6 + 1)) ≤ (wrap64 ((wrap64 (x6 + (wrap64 (bt x0 x6)))) + 2)) then (if (wrap64 ((wrap64 (x6 + (wrap64 (bt x0 x6)))) + 2)) ≤ (x0.size : Int) then (if x8.length < 4398046511104 then (if x9.length + (x0.extract ((wrap64 (x6 + 1)) : Int).toNat ((wrap64 ((wrap64 (x6 + (wrap64 (bt x0 x6)))) + 2)) : Int).toNat).size < 140737488355328 then ((some (x9 ++ bytesOf (x0.extract ((wrap64 (x6 + 1)) : Int).toNat ((wrap64 ((wrap64 (x6 + (wrap64 (bt x0 x6)))) + 2)) : Int).toNat) : List Int)).bind fun y208 => (if (IntKind.u64.wrap ((y208.length : Int))) > x5 then (some (([] : List (S46)), (⟨#[]⟩ : ByteArray), false)) else (strongroomref18_Tokens.l0 k x0 x5 (wrap64 ((wrap64 (x6 + (wrap64 (bt x0 x6)))) + 2)) (x8 ++ [(⟨0, 0, x0.extract ((wrap64 (x6 + 1)) : Int).toNat ((wrap64 ((wrap64 (x6 + (wrap64 (bt x0 x6)))) + 2)) : Int).toNat⟩ : S46)]) y208))) else (none)) else (none)) else (none)) else (none)) else (none))) else (if (wrap64 (x6 + 3)) > (x0.size : Int) then (some (([] : List (S46)), (⟨#[]⟩ : ByteArray), false)) else (if 0 ≤ (wrap64 (x6 + 1)) then (if (wrap64 (x6 + 1)) < (x0.size : Int) then (if 0 ≤ (wrap64 (x6 + 2)) then (if (wrap64 (x6 + 2)) < (x0.size : Int) then (if (wrap64 ((wrap64 ((wrap64 (256 * (wrap64 (bt x0 (wrap64 (x6 + 1)))))) + (wrap64 (bt x0 (wrap64 (x6 + 2)))))) + 1)) > (x9.length : Int) then (some (([] : List (S46)), (⟨#[]⟩ : ByteArray), false)) else (strongroomref18_Tokens.l1 k x0 x5 x6 x8 x9 (wrap64 (bt x0 x6)) (wrap64 ((wrap64 ((wrap64 (256 * (wrap64 (bt x0 (wrap64 (x6 + 1)))))) + (wrap64 (bt x0 (wrap64 (x6 + 2)))))) + 1)) 0)) else (none)) else (none)) else (none)) else (none)))) else (none)) else (some (x8, strOfNums x9, ((IntKind.u64.wrap ((x9.length : Int))) == x5)))
def strongroomref18_Tokens.l1 : Nat → ByteArray → Int → Int → List (S46) → List Int → Int → Int → Int → Option ((List (S46)) × ByteArray × Bool)
  | 0, _, _, _, _, _, _, _, _ => none
  | k + 1, x0, x5, x6, x8, x9, x10, x12, x13 => if x13 < (wrap64 (x10 - 125)) then (if 0 ≤ (wrap64 ((x9.length : Int) - x12)) then (if (wrap64 ((x9.length : Int) - x12)) < (x9.length : Int) then (if x9.length < 140737488355328 then (strongroomref18_Tokens.l1 k x0 x5 x6 x8 (x9 ++ [rd x9 (wrap64 ((x9.length : Int) - x12))]) x10 x12 (wrap64 (x13 + 1))) else (none)) else (none)) else (none)) else (if x8.length < 4398046511104 then (if (IntKind.u64.wrap ((x9.length : Int))) > x5 then (some (([] : List (S46)), (⟨#[]⟩ : ByteArray), false)) else (strongroomref18_Tokens.l0 k x0 x5 (wrap64 (x6 + 3)) (x8 ++ [(⟨x12, wrap64 (x10 - 125), (⟨#[]⟩ : ByteArray)⟩ : S46)]) x9)) else (none))
end
def strongroomref18_Tokens.f (k : Nat) (a0 : ByteArray) : Option ((List (S46)) × ByteArray × Bool) := (strongroomref01_Get.f k a0 0).bind fun bt202 => (if bt202.2.2 = 0 then (strongroomref18_Tokens.j0 k a0 bt202.1 bt202.2.1 (decide (bt202.1 > 65536))) else (strongroomref18_Tokens.j0 k a0 bt202.1 bt202.2.1 true))
theorem strongroomref18_Tokens.mono_l : ∀ k, (∀ y0 y1 y2 y3, LeO (strongroomref18_Tokens.j0 k y0 y1 y2 y3) (strongroomref18_Tokens.j0 (k + 1) y0 y1 y2 y3)) ∧ (∀ y0 y1 y2 y3 y4, LeO (strongroomref18_Tokens.l0 k y0 y1 y2 y3 y4) (strongroomref18_Tokens.l0 (k + 1) y0 y1 y2 y3 y4)) ∧ (∀ y0 y1 y2 y3 y4 y5 y6 y7, LeO (strongroomref18_Tokens.l1 k y0 y1 y2 y3 y4 y5 y6 y7) (strongroomref18_Tokens.l1 (k + 1) y0 y1 y2 y3 y4 y5 y6 y7))
  | 0 => ⟨fun _ _ _ _ r h => by simp [strongroomref18_Tokens.j0] at h, fun _ _ _ _ _ r h => by simp [strongroomref18_Tokens.l0] at h, fun _ _ _ _ _ _ _ _ r h => by simp [strongroomref18_Tokens.l1] at h⟩
  | k + 1 => by
    obtain ⟨ih0, ih1, ih2⟩ := strongroomref18_Tokens.mono_l k
    refine ⟨?_, ?_, ?_⟩
    · intro y0 y1 y2 y3
      unfold strongroomref18_Tokens.j0
      repeat' first
      | (with_reducible exact ih0 _ _ _ _)
      | (with_reducible exact ih1 _ _ _ _ _)
      | (with_reducible exact ih2 _ _ _ _ _ _ _ _)
      | (with_reducible exact strongroomref01_Get.mono _ _ _)
      | (with_reducible exact LeO.refl _)
      | (with_reducible exact LeO.none _)
      | (with_reducible refine LeO.ite ?_ ?_)
      | (with_reducible refine LeO.bind ?_ (fun _ => ?_))
      | exact ih0 _ _ _ _
      | exact ih1 _ _ _ _ _
      | exact ih2 _ _ _ _ _ _ _ _
      | exact strongroomref01_Get.mono _ _ _
      | exact LeO.none _
      | refine LeO.ite ?_ ?_
      | refine LeO.bind ?_ (fun _ => ?_)
    · intro y0 y1 y2 y3 y4
      unfold strongroomref18_Tokens.l0
      repeat' first
      | (with_reducible exact ih0 _ _ _ _)
      | (with_reducible exact ih1 _ _ _ _ _)
      | (with_reducible exact ih2 _ _ _ _ _ _ _ _)
      | (with_reducible exact strongroomref01_Get.mono _ _ _)
      | (with_reducible exact LeO.refl _)
      | (with_reducible exact LeO.none _)
      | (with_reducible refine LeO.ite ?_ ?_)
      | (with_reducible refine LeO.bind ?_ (fun _ => ?_))
      | exact ih0 _ _ _ _
      | exact ih1 _ _ _ _ _
      | exact ih2 _ _ _ _ _ _ _ _
      | exact strongroomref01_Get.mono _ _ _
      | exact LeO.none _
      | refine LeO.ite ?_ ?_
      | refine LeO.bind ?_ (fun _ => ?_)
    · intro y0 y1 y2 y3 y4 y5 y6 y7
      unfold strongroomref18_Tokens.l1
      repeat' first
      | (with_reducible exact ih0 _ _ _ _)
      | (with_reducible exact ih1 _ _ _ _ _)
      | (with_reducible exact ih2 _ _ _ _ _ _ _ _)
      | (with_reducible exact strongroomref01_Get.mono _ _ _)
      | (with_reducible exact LeO.refl _)
      | (with_reducible exact LeO.none _)
      | (with_reducible refine LeO.ite ?_ ?_)
      | (with_reducible refine LeO.bind ?_ (fun _ => ?_))
      | exact ih0 _ _ _ _
      | exact ih1 _ _ _ _ _
      | exact ih2 _ _ _ _ _ _ _ _
      | exact strongroomref01_Get.mono _ _ _
      | exact LeO.none _
      | refine LeO.ite ?_ ?_
      | refine LeO.bind ?_ (fun _ => ?_)
theorem strongroomref18_Tokens.mono : ∀ a0 k, LeO (strongroomref18_Tokens.f k a0) (strongroomref18_Tokens.f (k + 1) a0) := by
  intro a0 k
  obtain ⟨ih0, ih1, ih2⟩ := strongroomref18_Tokens.mono_l k
  unfold strongroomref18_Tokens.f
  repeat' first
      | (with_reducible exact ih0 _ _ _ _)
      | (with_reducible exact ih1 _ _ _ _ _)
      | (with_reducible exact ih2 _ _ _ _ _ _ _ _)
      | (with_reducible exact strongroomref01_Get.mono _ _ _)
      | (with_reducible exact LeO.refl _)
      | (with_reducible exact LeO.none _)
      | (with_reducible refine LeO.ite ?_ ?_)
      | (with_reducible refine LeO.bind ?_ (fun _ => ?_))
      | exact ih0 _ _ _ _
      | exact ih1 _ _ _ _ _
      | exact ih2 _ _ _ _ _ _ _ _
      | exact strongroomref01_Get.mono _ _ _
      | exact LeO.none _
      | refine LeO.ite ?_ ?_
      | refine LeO.bind ?_ (fun _ => ?_)
set_option maxHeartbeats 8000000 in
set_option maxRecDepth 100000 in
theorem strongroomref18_Tokens.calls (k : Nat) (a0 : ByteArray) (r1 : List (S46)) (r2 : ByteArray) (r3 : Bool) (w : World) (h : strongroomref18_Tokens.f k a0 = some (r1, r2, r3)) :
    Calls Try.prog 17 #[.string a0] w fun e w' => ∃ v0_ : Value, e = .returned (.tuple #[v0_, .string r2, .bool r3]) ∧ Kd.R k46 46 w' w.heap.size (fun _ => True) v0_ r1 ∧ Below w.heap.size w w' := by
  have hu46 := Try.underlying46
  have HB := Aside0.mk (Below.refl w.heap.size w)
  have H : ((strongroomref01_Get.f k a0 0).bind fun bt202 => (if bt202.2.2 = 0 then (strongroomref18_Tokens.j0 k a0 bt202.1 bt202.2.1 (decide (bt202.1 > 65536))) else (strongroomref18_Tokens.j0 k a0 bt202.1 bt202.2.1 true))) = some (r1, r2, r3) := h
  clear h
  replace H := Option.bind_eq_some_iff.mp H
  obtain ⟨⟨t202, t203, t204⟩, A20, H⟩ := H
  replace H : (if t204 = 0 then (strongroomref18_Tokens.j0 k a0 t202 t203 (decide (t202 > 65536))) else (strongroomref18_Tokens.j0 k a0 t202 t203 true)) = some (r1, r2, r3) := H
  have A2 := Aside0.mk A20
  clear A20
  have HC3 := Aside0.mk H
  clear H
  go_enter Try.func17, Try.ntmps17
  go_upto_region 2 with (first | (go_at_call 25; (with_reducible refine (strongroomref01_Get.calls k a0 0 t202 t203 t204 _ A2.out).mono ?_); rintro e w' ⟨rfl, ⟨nd, rfl⟩⟩; (try first | exact ⟨rfl, _, World.drewN_drewN _ _ _⟩ | exact ⟨rfl, _, Eq.trans (World.drewN_drewN _ _ _) (congrArg (World.drewN _) (Nat.add_assoc _ _ _))⟩)))
  repeat (go_quiet (first | (go_at_call 25; (with_reducible refine (strongroomref01_Get.calls k a0 0 t202 t203 t204 _ A2.out).mono ?_); rintro e w' ⟨rfl, ⟨nd, rfl⟩⟩; (try first | exact ⟨rfl, _, World.drewN_drewN _ _ _⟩ | exact ⟨rfl, _, Eq.trans (World.drewN_drewN _ _ _) (congrArg (World.drewN _) (Nat.add_assoc _ _ _))⟩))); go_upto_region 2 with (first | (go_at_call 25; (with_reducible refine (strongroomref01_Get.calls k a0 0 t202 t203 t204 _ A2.out).mono ?_); rintro e w' ⟨rfl, ⟨nd, rfl⟩⟩; (try first | exact ⟨rfl, _, World.drewN_drewN _ _ _⟩ | exact ⟨rfl, _, Eq.trans (World.drewN_drewN _ _ _) (congrArg (World.drewN _) (Nat.add_assoc _ _ _))⟩))))
  (try simp only [Act.put, List.setIfInBounds_toArray, List.set_cons_zero, List.set_cons_succ])
  go_cut [26] (fun v26 wc => ∃ (kq : Nat) (x26_2 : Bool), v26 = .bool x26_2 ∧ Aside0 (strongroomref18_Tokens.j0 kq a0 t202 t203 x26_2 = some (r1, r2, r3)) ∧ Aside0 (kq ≤ k) ∧ Aside0 (Below w.heap.size w wc))
  case first =>
    have H := HC3.out
    clear HC3
    by_cases c4 : t204 = 0
    · rw [if_pos c4] at H
      have c4b0 : (t204 == 0) = true := beq_iff_eq.mpr c4
      have c4b1 : (t204 != 0) = false := bne_eq_false_iff_eq.mpr c4
      clear c4
      (first | rw [c4b0] | (simp only [i64_w, i32_w]; rw [c4b0]) | skip)
      have H' := Aside0.mk H
      clear H
      go_wp2
      repeat (go_quiet (fail); try go_wp2)
      go_meet
      case rel => exact ⟨_, (decide (t202 > 65536)), (by first | rfl | (simp; done) | (simp [*]; done)), H', ⟨by first | omega | exact Nat.le_refl _⟩, ⟨by repeat (first | (with_reducible first | exact HB.out | apply below_alloc | apply pw_below_drewN | apply below_drew1) | exact HB.out)⟩⟩
    · rw [if_neg c4] at H
      have c4b0 : (t204 == 0) = false := beq_eq_false_iff_ne.mpr c4
      have c4b1 : (t204 != 0) = true := bne_iff_ne.mpr c4
      (first | rw [c4b0] | (simp only [i64_w, i32_w]; rw [c4b0]) | skip)
      have H' := Aside0.mk H
      clear H
      go_wp2
      repeat (go_quiet (fail); try go_wp2)
      go_meet
      case rel => exact ⟨_, (true), (by first | rfl | (simp; done) | (simp [*]; done)), H', ⟨by first | omega | exact Nat.le_refl _⟩, ⟨by repeat (first | (with_reducible first | exact HB.out | apply below_alloc | apply pw_below_drewN | apply below_drew1) | exact HB.out)⟩⟩
  case rest =>
    clear HC3
    try clear c1
    try clear p2
    try clear c4
    try clear c4b0
    try clear c4b1
    obtain ⟨kq, x26_2, rfl, HA, HJ2, HB⟩ := hcut
    cases kq with
    | zero => exact absurd HA.out (by simp [strongroomref18_Tokens.j0])
    | succ kj2 =>
      have H := HA.out
      clear HA
      simp only [strongroomref18_Tokens.j0] at H
      by_cases c5 : x26_2 = true
      · subst c5
        have H1 : (some (([] : List (S46)), (⟨#[]⟩ : ByteArray), false)) = some (r1, r2, r3) := by rw [if_pos rfl] at H; exact H
        clear H
        have H := H1
        clear H1
        simp only [Option.some.injEq, Prod.mk.injEq] at H
        obtain ⟨rfl, rfl, rfl⟩ := H
        go_wp2
        repeat (go_quiet (fail); try go_wp2)
        go_ret3
        exact ⟨_, by first | rfl | (simp [errW_none, errW_some] <;> rfl) | (simp [*, errW_none, errW_some] <;> rfl), by first | exact Kd.R_nil _ _ _ _ _ | exact Kd.N_nil _ _ _ _ _ | exact Kd.V_nil _ _ _ _ _ | exact Kd.Q_nil _ _ _ _ _ | exact Kd.S_nil _ _ _ _ _, by repeat (first | (with_reducible first | exact HB.out | apply below_alloc | apply pw_below_drewN | apply below_drew1) | exact HB.out)⟩
      · replace c5 := Bool.eq_false_iff.mpr c5
        subst c5
        have H1 : (strongroomref18_Tokens.l0 kj2 a0 t202 t203 ([] : List (S46)) ([] : List Int)) = some (r1, r2, r3) := by rw [if_neg (show ¬ (false = true) by decide)] at H; exact H
        clear H
        have H := H1
        clear H1
        have H' := Aside0.mk H
        clear H
        go_wp2
        repeat (go_quiet (fail); try go_wp2)
        go_loopg [6, 8, 9] kj2 (fun kq v6 v8 v9 w' => ∃ (x6_2 : Int) (x8_2 : List (S46)) (x9_2 : List Int), v6 = .int .i64 x6_2 ∧ Aside0 (strongroomref18_Tokens.l0 kq a0 t202 x6_2 x8_2 x9_2 = some (r1, r2, r3)) ∧ Aside0 (kq ≤ kj2) ∧ Aside0 (Kd.R k46 46 w' w.heap.size (fun _ => True) v8 x8_2) ∧ Aside0 (Kd.R (Kd.int .u8) 5 w' w.heap.size (fun _ => True) v9 x9_2) ∧ Aside0 (Below w.heap.size w w'))
        case atStart => exact ⟨(t203), (([] : List (S46))), (([] : List Int)), (by first | rfl | (simp; done) | (simp [*]; done)), H', ⟨Nat.le_refl _⟩, ⟨by first | exact Kd.R_nil _ _ _ _ _ | exact Kd.N_nil _ _ _ _ _ | exact Kd.V_nil _ _ _ _ _ | exact Kd.Q_nil _ _ _ _ _ | exact Kd.S_nil _ _ _ _ _⟩, ⟨by first | exact Kd.R_nil _ _ _ _ _ | exact Kd.N_nil _ _ _ _ _ | exact Kd.V_nil _ _ _ _ _ | exact Kd.Q_nil _ _ _ _ _ | exact Kd.S_nil _ _ _ _ _⟩, ⟨by repeat (first | (with_reducible first | exact HB.out | apply below_alloc | apply pw_below_drewN | apply below_drew1) | exact HB.out)⟩⟩
        case round =>
          clear H'
          try clear c1
          try clear p2
          try clear c4
          try clear c4b0
          try clear c4b1
          try clear c5
          try clear p2
          obtain ⟨x6_2, x8_2, x9_2, rfl, HA, HK2, HO_8, HO_9, HB⟩ := hrel
          cases gk with
          | zero => exact absurd HA.out (by simp [strongroomref18_Tokens.l0])
          | succ k2 =>
            have H := HA.out
            clear HA
            simp only [strongroomref18_Tokens.l0] at H
            by_cases c6 : x6_2 < (a0.size : Int)
            · rw [if_pos c6] at H
              have c6b0 : decide (x6_2 < (a0.size : Int)) = true := decide_eq_true c6
              clear c6
              by_cases c7 : 0 ≤ x6_2
              · rw [if_pos c7] at H
                have c7b0 : decide (0 ≤ x6_2) = true := decide_eq_true c7
                clear c7
                by_cases c9 : (wrap64 (bt a0 x6_2)) < 128
                · rw [if_pos c9] at H
                  have c9b0 : decide ((wrap64 (bt a0 x6_2)) < 128) = true := decide_eq_true c9
                  clear c9
                  by_cases c10 : (wrap64 ((wrap64 (x6_2 + (wrap64 (bt a0 x6_2)))) + 2)) > (a0.size : Int)
                  · rw [if_pos c10] at H
                    have c10b0 : decide ((a0.size : Int) < (wrap64 ((wrap64 (x6_2 + (wrap64 (bt a0 x6_2)))) + 2))) = true := decide_eq_true c10
                    clear c10
                    simp only [Option.some.injEq, Prod.mk.injEq] at H
                    obtain ⟨rfl, rfl, rfl⟩ := H
                    have p8 : 0 ≤ (x6_2 : Int) := of_decide_eq_true (by first | (with_reducible assumption) | assumption)
                    have q8 : x6_2 < (a0.size : Int) := of_decide_eq_true (by first | (with_reducible assumption) | assumption)
                    have hx8 := bt_at a0 x6_2
                    replace p8 := eq_true p8
                    replace q8 := eq_true q8
                    go_wp2
                    repeat (go_quiet (fail); try go_wp2)
                    go_ret3
                    exact ⟨_, by first | rfl | (simp [errW_none, errW_some] <;> rfl) | (simp [*, errW_none, errW_some] <;> rfl), by first | exact Kd.R_nil _ _ _ _ _ | exact Kd.N_nil _ _ _ _ _ | exact Kd.V_nil _ _ _ _ _ | exact Kd.Q_nil _ _ _ _ _ | exact Kd.S_nil _ _ _ _ _, by repeat (first | (with_reducible first | exact HB.out | apply below_alloc | apply pw_below_drewN | apply below_drew1) | exact HB.out)⟩
                  · rw [if_neg c10] at H
                    have c10b0 : decide ((a0.size : Int) < (wrap64 ((wrap64 (x6_2 + (wrap64 (bt a0 x6_2)))) + 2))) = false := decide_eq_false c10
                    clear c10
                    obtain ⟨ji11, hji11⟩ : ∃ j_ : Int, (wrap64 (x6_2 + 1)) = j_ := ⟨_, rfl⟩
                    replace H : (if 0 ≤ (ji11) then (if (ji11) ≤ (wrap64 ((wrap64 (x6_2 + (wrap64 (bt a0 x6_2)))) + 2)) then (if (wrap64 ((wrap64 (x6_2 + (wrap64 (bt a0 x6_2)))) + 2)) ≤ (a0.size : Int) then (if x8_2.length < 4398046511104 then (if x9_2.length + (a0.extract ((ji11) : Int).toNat ((wrap64 ((wrap64 (x6_2 + (wrap64 (bt a0 x6_2)))) + 2)) : Int).toNat).size < 140737488355328 then ((some (x9_2 ++ bytesOf (a0.extract ((ji11) : Int).toNat ((wrap64 ((wrap64 (x6_2 + (wrap64 (bt a0 x6_2)))) + 2)) : Int).toNat) : List Int)).bind fun y208 => (if (IntKind.u64.wrap ((y208.length : Int))) > t202 then (some (([] : List (S46)), (⟨#[]⟩ : ByteArray), false)) else (strongroomref18_Tokens.l0 k2 a0 t202 (wrap64 ((wrap64 (x6_2 + (wrap64 (bt a0 x6_2)))) + 2)) (x8_2 ++ [(⟨0, 0, a0.extract ((ji11) : Int).toNat ((wrap64 ((wrap64 (x6_2 + (wrap64 (bt a0 x6_2)))) + 2)) : Int).toNat⟩ : S46)]) y208))) else (none)) else (none)) else (none)) else (none)) else (none)) = some (r1, r2, r3) := by first | (rw [hji11] at H; exact H) | (simp only [hji11] at H ⊢; exact H)
                    have hji11w : (IntKind.i64.wrap (x6_2 + 1)) = ji11 := (i64_w _).trans hji11
                    by_cases c12 : 0 ≤ (ji11)
                    · rw [if_pos c12] at H
                      have c12b0 := eq_true c12
                      have c12b1 : decide (0 ≤ (ji11)) = true := decide_eq_true c12
                      clear c12
                      by_cases c13 : (ji11) ≤ (wrap64 ((wrap64 (x6_2 + (wrap64 (bt a0 x6_2)))) + 2))
                      · rw [if_pos c13] at H
                        have c13b0 := eq_true c13
                        have c13b1 : decide ((ji11) ≤ (wrap64 ((wrap64 (x6_2 + (wrap64 (bt a0 x6_2)))) + 2))) = true := decide_eq_true c13
                        by_cases c14 : (wrap64 ((wrap64 (x6_2 + (wrap64 (bt a0 x6_2)))) + 2)) ≤ (a0.size : Int)
                        · rw [if_pos c14] at H
                          have c14b0 := eq_true c14
                          have c14b1 : decide ((wrap64 ((wrap64 (x6_2 + (wrap64 (bt a0 x6_2)))) + 2)) ≤ (a0.size : Int)) = true := decide_eq_true c14
                          by_cases c15 : x8_2.length < 4398046511104
                          · rw [if_pos c15] at H
                            have LMc15 := Aside0.mk c15
                            clear c15
                            obtain ⟨y205, hy205⟩ : ∃ y_ : List (S46), y_ = (x8_2 ++ [(⟨0, 0, a0.extract ((ji11) : Int).toNat ((wrap64 ((wrap64 (x6_2 + (wrap64 (bt a0 x6_2)))) + 2)) : Int).toNat⟩ : S46)]) := ⟨_, rfl⟩
                            replace H : (if x9_2.length + (a0.extract ((ji11) : Int).toNat ((wrap64 ((wrap64 (x6_2 + (wrap64 (bt a0 x6_2)))) + 2)) : Int).toNat).size < 140737488355328 then ((some (x9_2 ++ bytesOf (a0.extract ((ji11) : Int).toNat ((wrap64 ((wrap64 (x6_2 + (wrap64 (bt a0 x6_2)))) + 2)) : Int).toNat) : List Int)).bind fun y208 => (if (IntKind.u64.wrap ((y208.length : Int))) > t202 then (some (([] : List (S46)), (⟨#[]⟩ : ByteArray), false)) else (strongroomref18_Tokens.l0 k2 a0 t202 (wrap64 ((wrap64 (x6_2 + (wrap64 (bt a0 x6_2)))) + 2)) y205 y208))) else (none)) = some (r1, r2, r3) := by first | (rw [hy205]; with_reducible exact H) | (have H2_ := (Option.bind_some _ _).symm.trans H; rw [hy205]; with_reducible exact H2_) | (have H2_ := (Option.bind_some _ _).symm.trans H; with_reducible exact H2_) | with_reducible exact H | (rw [hy205]; exact H) | exact H
                            have Ny205 := Aside0.mk hy205
                            clear hy205
                            by_cases c16 : x9_2.length + (a0.extract ((ji11) : Int).toNat ((wrap64 ((wrap64 (x6_2 + (wrap64 (bt a0 x6_2)))) + 2)) : Int).toNat).size < 140737488355328
                            · rw [if_pos c16] at H
                              have LMc16 := Aside0.mk c16
                              clear c16
                              obtain ⟨y208, hy208⟩ : ∃ y_ : List Int, y_ = (x9_2 ++ bytesOf (a0.extract ((ji11) : Int).toNat ((wrap64 ((wrap64 (x6_2 + (wrap64 (bt a0 x6_2)))) + 2)) : Int).toNat)) := ⟨_, rfl⟩
                              replace H : (if (IntKind.u64.wrap ((y208.length : Int))) > t202 then (some (([] : List (S46)), (⟨#[]⟩ : ByteArray), false)) else (strongroomref18_Tokens.l0 k2 a0 t202 (wrap64 ((wrap64 (x6_2 + (wrap64 (bt a0 x6_2)))) + 2)) y205 y208)) = some (r1, r2, r3) := by first | (rw [hy208]; with_reducible exact H) | (have H2_ := (Option.bind_some _ _).symm.trans H; rw [hy208]; with_reducible exact H2_) | (have H2_ := (Option.bind_some _ _).symm.trans H; with_reducible exact H2_) | with_reducible exact H | (rw [hy208]; exact H) | exact H
                              have Ny208 := Aside0.mk hy208
                              clear hy208
                              by_cases c17 : (IntKind.u64.wrap ((y208.length : Int))) > t202
                              · rw [if_pos c17] at H
                                have c17b0 : decide (t202 < (IntKind.u64.wrap ((y208.length : Int)))) = true := decide_eq_true c17
                                clear c17
                                simp only [Option.some.injEq, Prod.mk.injEq] at H
                                obtain ⟨rfl, rfl, rfl⟩ := H
                                have p8 : 0 ≤ (x6_2 : Int) := of_decide_eq_true (by first | (with_reducible assumption) | assumption)
                                have q8 : x6_2 < (a0.size : Int) := of_decide_eq_true (by first | (with_reducible assumption) | assumption)
                                have hx8 := bt_at a0 x6_2
                                replace p8 := eq_true p8
                                replace q8 := eq_true q8
                                go_wp2_with (first | ((with_reducible refine gate_builtin (b := .append) (xs := #[.tmp 52, .tmp 55]) rfl ?_); at_builtin; refine Kd.R_append k46 (w0 := w) w.heap.size rfl (.tmp 52) (.tmp 55) 22 46 (.agg #[(.int .i64 0), (.int .i64 0), (.string ⟨#[]⟩)]) 32 rfl Try.underlying22 info46 rfl (by decide) (by omega) u8 x8_2 (⟨0, 0, a0.extract ((ji11) : Int).toNat ((wrap64 ((wrap64 (x6_2 + (wrap64 (bt a0 x6_2)))) + 2)) : Int).toNat⟩ : S46) [.int .i64 0, .int .i64 0, .string (a0.extract ((ji11) : Int).toNat ((wrap64 ((wrap64 (x6_2 + (wrap64 (bt a0 x6_2)))) + 2)) : Int).toNat)] (fun _ => True) (fun _ => False) rfl rfl ?aP (fun _ hk => hk.elim) ?aF ?aO ?aB ?aS ?aL ?_; (case aP => exact k46_mkM _ _ _ (⟨0, 0, a0.extract ((ji11) : Int).toNat ((wrap64 ((wrap64 (x6_2 + (wrap64 (bt a0 x6_2)))) + 2)) : Int).toNat⟩ : S46)); (case aB => exact (by repeat (first | (with_reducible first | exact HB.out | apply below_alloc | apply pw_below_drewN | apply below_drew1) | exact HB.out))); (case aF => exact (fun _ _ => trivial)); (case aO => exact (by (with_reducible repeat (first | apply Kd.R_alloc | apply Kd.R_drewN | apply Kd.R_drew)); exact HO_8.out)); (case aS => exact (below_size (by repeat (first | (with_reducible first | exact HB.out | apply below_alloc | apply pw_below_drewN | apply below_drew1) | exact HB.out)))); (case aL => have := LMc15.out; omega); intro v206 w18 ho hb hg hat; rw [← Ny205.out] at ho; have n0_ := Aside0.mk (Kd.R_over' (by (with_reducible repeat (first | apply Kd.R_alloc | apply Kd.R_drewN | apply Kd.R_drew)); exact HO_9.out) (Kd.R_typed (by (with_reducible repeat (first | apply Kd.R_alloc | apply Kd.R_drewN | apply Kd.R_drew)); exact HO_8.out)) (by decide) hg); have n1_ := Aside0.mk (hb); have n2_ := Aside0.mk (ho); clear HO_9; clear HB; clear HO_8; have HO_9 := n0_; have HB := n1_; have HO207 := n2_; clear n0_ n1_ n2_; clear ho hb hg hat) | (at_builtin; refine print_append_str (w0 := w) w.heap.size rfl (.tmp 57) _ 25 9 5 rfl Try.underlying25 Try.underlying9 info5 u9 x9_2 (a0.extract ((ji11) : Int).toNat ((wrap64 ((wrap64 (x6_2 + (wrap64 (bt a0 x6_2)))) + 2)) : Int).toNat) rfl rfl ?aO ?aB ?aS ?aL ?_; (case aB => exact (by repeat (first | (with_reducible first | exact HB.out | apply below_alloc | apply pw_below_drewN | apply below_drew1) | exact HB.out))); (case aO => exact (Kd.own_of_R (by (with_reducible repeat (first | apply Kd.R_alloc | apply Kd.R_drewN | apply Kd.R_drew)); exact HO_9.out))); (case aS => exact (below_size (by repeat (first | (with_reducible first | exact HB.out | apply below_alloc | apply pw_below_drewN | apply below_drew1) | exact HB.out)))); (case aL => have := LMc16.out; omega); intro v209 w19 ho0 hb hg; have ho := Kd.R_of_own (h1 := fun _ => rfl) (ok := fun _ => True) ho0 (fun _ _ => trivial); clear ho0; have hat := True.intro; rw [← Ny208.out] at ho; change Kd.R (Kd.int .u8) 5 w19 w.heap.size (fun _ => True) v209 y208 at ho; have n0_ := Aside0.mk (Kd.R_over' (by (with_reducible repeat (first | apply Kd.R_alloc | apply Kd.R_drewN | apply Kd.R_drew)); exact HO207.out) (Kd.R_typed (by (with_reducible repeat (first | apply Kd.R_alloc | apply Kd.R_drewN | apply Kd.R_drew)); exact HO_9.out)) (by decide) hg); have n1_ := Aside0.mk (hb); have n2_ := Aside0.mk (ho); clear HO207; clear HB; clear HO_9; have HO207 := n0_; have HB := n1_; have HO210 := n2_; clear n0_ n1_ n2_; clear ho hb hg hat; obtain ⟨Ao20, co20, eo20⟩ := Kd.R_slice HO210.out; subst eo20))
                                repeat (go_quiet (first | ((with_reducible refine gate_builtin (b := .append) (xs := #[.tmp 52, .tmp 55]) rfl ?_); at_builtin; refine Kd.R_append k46 (w0 := w) w.heap.size rfl (.tmp 52) (.tmp 55) 22 46 (.agg #[(.int .i64 0), (.int .i64 0), (.string ⟨#[]⟩)]) 32 rfl Try.underlying22 info46 rfl (by decide) (by omega) u8 x8_2 (⟨0, 0, a0.extract ((ji11) : Int).toNat ((wrap64 ((wrap64 (x6_2 + (wrap64 (bt a0 x6_2)))) + 2)) : Int).toNat⟩ : S46) [.int .i64 0, .int .i64 0, .string (a0.extract ((ji11) : Int).toNat ((wrap64 ((wrap64 (x6_2 + (wrap64 (bt a0 x6_2)))) + 2)) : Int).toNat)] (fun _ => True) (fun _ => False) rfl rfl ?aP (fun _ hk => hk.elim) ?aF ?aO ?aB ?aS ?aL ?_; (case aP => exact k46_mkM _ _ _ (⟨0, 0, a0.extract ((ji11) : Int).toNat ((wrap64 ((wrap64 (x6_2 + (wrap64 (bt a0 x6_2)))) + 2)) : Int).toNat⟩ : S46)); (case aB => exact (by repeat (first | (with_reducible first | exact HB.out | apply below_alloc | apply pw_below_drewN | apply below_drew1) | exact HB.out))); (case aF => exact (fun _ _ => trivial)); (case aO => exact (by (with_reducible repeat (first | apply Kd.R_alloc | apply Kd.R_drewN | apply Kd.R_drew)); exact HO_8.out)); (case aS => exact (below_size (by repeat (first | (with_reducible first | exact HB.out | apply below_alloc | apply pw_below_drewN | apply below_drew1) | exact HB.out)))); (case aL => have := LMc15.out; omega); intro v206 w18 ho hb hg hat; rw [← Ny205.out] at ho; have n0_ := Aside0.mk (Kd.R_over' (by (with_reducible repeat (first | apply Kd.R_alloc | apply Kd.R_drewN | apply Kd.R_drew)); exact HO_9.out) (Kd.R_typed (by (with_reducible repeat (first | apply Kd.R_alloc | apply Kd.R_drewN | apply Kd.R_drew)); exact HO_8.out)) (by decide) hg); have n1_ := Aside0.mk (hb); have n2_ := Aside0.mk (ho); clear HO_9; clear HB; clear HO_8; have HO_9 := n0_; have HB := n1_; have HO207 := n2_; clear n0_ n1_ n2_; clear ho hb hg hat) | (at_builtin; refine print_append_str (w0 := w) w.heap.size rfl (.tmp 57) _ 25 9 5 rfl Try.underlying25 Try.underlying9 info5 u9 x9_2 (a0.extract ((ji11) : Int).toNat ((wrap64 ((wrap64 (x6_2 + (wrap64 (bt a0 x6_2)))) + 2)) : Int).toNat) rfl rfl ?aO ?aB ?aS ?aL ?_; (case aB => exact (by repeat (first | (with_reducible first | exact HB.out | apply below_alloc | apply pw_below_drewN | apply below_drew1) | exact HB.out))); (case aO => exact (Kd.own_of_R (by (with_reducible repeat (first | apply Kd.R_alloc | apply Kd.R_drewN | apply Kd.R_drew)); exact HO_9.out))); (case aS => exact (below_size (by repeat (first | (with_reducible first | exact HB.out | apply below_alloc | apply pw_below_drewN | apply below_drew1) | exact HB.out)))); (case aL => have := LMc16.out; omega); intro v209 w19 ho0 hb hg; have ho := Kd.R_of_own (h1 := fun _ => rfl) (ok := fun _ => True) ho0 (fun _ _ => trivial); clear ho0; have hat := True.intro; rw [← Ny208.out] at ho; change Kd.R (Kd.int .u8) 5 w19 w.heap.size (fun _ => True) v209 y208 at ho; have n0_ := Aside0.mk (Kd.R_over' (by (with_reducible repeat (first | apply Kd.R_alloc | apply Kd.R_drewN | apply Kd.R_drew)); exact HO207.out) (Kd.R_typed (by (with_reducible repeat (first | apply Kd.R_alloc | apply Kd.R_drewN | apply Kd.R_drew)); exact HO_9.out)) (by decide) hg); have n1_ := Aside0.mk (hb); have n2_ := Aside0.mk (ho); clear HO207; clear HB; clear HO_9; have HO207 := n0_; have HB := n1_; have HO210 := n2_; clear n0_ n1_ n2_; clear ho hb hg hat; obtain ⟨Ao20, co20, eo20⟩ := Kd.R_slice HO210.out; subst eo20)); try go_wp2_with (first | ((with_reducible refine gate_builtin (b := .append) (xs := #[.tmp 52, .tmp 55]) rfl ?_); at_builtin; refine Kd.R_append k46 (w0 := w) w.heap.size rfl (.tmp 52) (.tmp 55) 22 46 (.agg #[(.int .i64 0), (.int .i64 0), (.string ⟨#[]⟩)]) 32 rfl Try.underlying22 info46 rfl (by decide) (by omega) u8 x8_2 (⟨0, 0, a0.extract ((ji11) : Int).toNat ((wrap64 ((wrap64 (x6_2 + (wrap64 (bt a0 x6_2)))) + 2)) : Int).toNat⟩ : S46) [.int .i64 0, .int .i64 0, .string (a0.extract ((ji11) : Int).toNat ((wrap64 ((wrap64 (x6_2 + (wrap64 (bt a0 x6_2)))) + 2)) : Int).toNat)] (fun _ => True) (fun _ => False) rfl rfl ?aP (fun _ hk => hk.elim) ?aF ?aO ?aB ?aS ?aL ?_; (case aP => exact k46_mkM _ _ _ (⟨0, 0, a0.extract ((ji11) : Int).toNat ((wrap64 ((wrap64 (x6_2 + (wrap64 (bt a0 x6_2)))) + 2)) : Int).toNat⟩ : S46)); (case aB => exact (by repeat (first | (with_reducible first | exact HB.out | apply below_alloc | apply pw_below_drewN | apply below_drew1) | exact HB.out))); (case aF => exact (fun _ _ => trivial)); (case aO => exact (by (with_reducible repeat (first | apply Kd.R_alloc | apply Kd.R_drewN | apply Kd.R_drew)); exact HO_8.out)); (case aS => exact (below_size (by repeat (first | (with_reducible first | exact HB.out | apply below_alloc | apply pw_below_drewN | apply below_drew1) | exact HB.out)))); (case aL => have := LMc15.out; omega); intro v206 w18 ho hb hg hat; rw [← Ny205.out] at ho; have n0_ := Aside0.mk (Kd.R_over' (by (with_reducible repeat (first | apply Kd.R_alloc | apply Kd.R_drewN | apply Kd.R_drew)); exact HO_9.out) (Kd.R_typed (by (with_reducible repeat (first | apply Kd.R_alloc | apply Kd.R_drewN | apply Kd.R_drew)); exact HO_8.out)) (by decide) hg); have n1_ := Aside0.mk (hb); have n2_ := Aside0.mk (ho); clear HO_9; clear HB; clear HO_8; have HO_9 := n0_; have HB := n1_; have HO207 := n2_; clear n0_ n1_ n2_; clear ho hb hg hat) | (at_builtin; refine print_append_str (w0 := w) w.heap.size rfl (.tmp 57) _ 25 9 5 rfl Try.underlying25 Try.underlying9 info5 u9 x9_2 (a0.extract ((ji11) : Int).toNat ((wrap64 ((wrap64 (x6_2 + (wrap64 (bt a0 x6_2)))) + 2)) : Int).toNat) rfl rfl ?aO ?aB ?aS ?aL ?_; (case aB => exact (by repeat (first | (with_reducible first | exact HB.out | apply below_alloc | apply pw_below_drewN | apply below_drew1) | exact HB.out))); (case aO => exact (Kd.own_of_R (by (with_reducible repeat (first | apply Kd.R_alloc | apply Kd.R_drewN | apply Kd.R_drew)); exact HO_9.out))); (case aS => exact (below_size (by repeat (first | (with_reducible first | exact HB.out | apply below_alloc | apply pw_below_drewN | apply below_drew1) | exact HB.out)))); (case aL => have := LMc16.out; omega); intro v209 w19 ho0 hb hg; have ho := Kd.R_of_own (h1 := fun _ => rfl) (ok := fun _ => True) ho0 (fun _ _ => trivial); clear ho0; have hat := True.intro; rw [← Ny208.out] at ho; change Kd.R (Kd.int .u8) 5 w19 w.heap.size (fun _ => True) v209 y208 at ho; have n0_ := Aside0.mk (Kd.R_over' (by (with_reducible repeat (first | apply Kd.R_alloc | apply Kd.R_drewN | apply Kd.R_drew)); exact HO207.out) (Kd.R_typed (by (with_reducible repeat (first | apply Kd.R_alloc | apply Kd.R_drewN | apply Kd.R_drew)); exact HO_9.out)) (by decide) hg); have n1_ := Aside0.mk (hb); have n2_ := Aside0.mk (ho); clear HO207; clear HB; clear HO_9; have HO207 := n0_; have HB := n1_; have HO210 := n2_; clear n0_ n1_ n2_; clear ho hb hg hat; obtain ⟨Ao20, co20, eo20⟩ := Kd.R_slice HO210.out; subst eo20)))
                                go_ret3
                                exact ⟨_, by first | rfl | (simp [errW_none, errW_some] <;> rfl) | (simp only [← hji11]; first | rfl | (simp [errW_none, errW_some] <;> rfl)) | (simp [*, errW_none, errW_some] <;> rfl), by first | exact Kd.R_nil _ _ _ _ _ | exact Kd.N_nil _ _ _ _ _ | exact Kd.V_nil _ _ _ _ _ | exact Kd.Q_nil _ _ _ _ _ | exact Kd.S_nil _ _ _ _ _, by repeat (first | (with_reducible first | exact HB.out | apply below_alloc | apply pw_below_drewN | apply below_drew1) | exact HB.out)⟩
                              · rw [if_neg c17] at H
                                have c17b0 : decide (t202 < (IntKind.u64.wrap ((y208.length : Int)))) = false := decide_eq_false c17
                                clear c17
                                have H' := Aside0.mk H
                                clear H
                                have p8 : 0 ≤ (x6_2 : Int) := of_decide_eq_true (by first | (with_reducible assumption) | assumption)
                                have q8 : x6_2 < (a0.size : Int) := of_decide_eq_true (by first | (with_reducible assumption) | assumption)
                                have hx8 := bt_at a0 x6_2
                                replace p8 := eq_true p8
                                replace q8 := eq_true q8
                                go_wp2_with (first | ((with_reducible refine gate_builtin (b := .append) (xs := #[.tmp 52, .tmp 55]) rfl ?_); at_builtin; refine Kd.R_append k46 (w0 := w) w.heap.size rfl (.tmp 52) (.tmp 55) 22 46 (.agg #[(.int .i64 0), (.int .i64 0), (.string ⟨#[]⟩)]) 32 rfl Try.underlying22 info46 rfl (by decide) (by omega) u8 x8_2 (⟨0, 0, a0.extract ((ji11) : Int).toNat ((wrap64 ((wrap64 (x6_2 + (wrap64 (bt a0 x6_2)))) + 2)) : Int).toNat⟩ : S46) [.int .i64 0, .int .i64 0, .string (a0.extract ((ji11) : Int).toNat ((wrap64 ((wrap64 (x6_2 + (wrap64 (bt a0 x6_2)))) + 2)) : Int).toNat)] (fun _ => True) (fun _ => False) rfl rfl ?aP (fun _ hk => hk.elim) ?aF ?aO ?aB ?aS ?aL ?_; (case aP => exact k46_mkM _ _ _ (⟨0, 0, a0.extract ((ji11) : Int).toNat ((wrap64 ((wrap64 (x6_2 + (wrap64 (bt a0 x6_2)))) + 2)) : Int).toNat⟩ : S46)); (case aB => exact (by repeat (first | (with_reducible first | exact HB.out | apply below_alloc | apply pw_below_drewN | apply below_drew1) | exact HB.out))); (case aF => exact (fun _ _ => trivial)); (case aO => exact (by (with_reducible repeat (first | apply Kd.R_alloc | apply Kd.R_drewN | apply Kd.R_drew)); exact HO_8.out)); (case aS => exact (below_size (by repeat (first | (with_reducible first | exact HB.out | apply below_alloc | apply pw_below_drewN | apply below_drew1) | exact HB.out)))); (case aL => have := LMc15.out; omega); intro v206 w21 ho hb hg hat; rw [← Ny205.out] at ho; have n0_ := Aside0.mk (Kd.R_over' (by (with_reducible repeat (first | apply Kd.R_alloc | apply Kd.R_drewN | apply Kd.R_drew)); exact HO_9.out) (Kd.R_typed (by (with_reducible repeat (first | apply Kd.R_alloc | apply Kd.R_drewN | apply Kd.R_drew)); exact HO_8.out)) (by decide) hg); have n1_ := Aside0.mk (hb); have n2_ := Aside0.mk (ho); clear HO_9; clear HB; clear HO_8; have HO_9 := n0_; have HB := n1_; have HO207 := n2_; clear n0_ n1_ n2_; clear ho hb hg hat) | (at_builtin; refine print_append_str (w0 := w) w.heap.size rfl (.tmp 57) _ 25 9 5 rfl Try.underlying25 Try.underlying9 info5 u9 x9_2 (a0.extract ((ji11) : Int).toNat ((wrap64 ((wrap64 (x6_2 + (wrap64 (bt a0 x6_2)))) + 2)) : Int).toNat) rfl rfl ?aO ?aB ?aS ?aL ?_; (case aB => exact (by repeat (first | (with_reducible first | exact HB.out | apply below_alloc | apply pw_below_drewN | apply below_drew1) | exact HB.out))); (case aO => exact (Kd.own_of_R (by (with_reducible repeat (first | apply Kd.R_alloc | apply Kd.R_drewN | apply Kd.R_drew)); exact HO_9.out))); (case aS => exact (below_size (by repeat (first | (with_reducible first | exact HB.out | apply below_alloc | apply pw_below_drewN | apply below_drew1) | exact HB.out)))); (case aL => have := LMc16.out; omega); intro v209 w22 ho0 hb hg; have ho := Kd.R_of_own (h1 := fun _ => rfl) (ok := fun _ => True) ho0 (fun _ _ => trivial); clear ho0; have hat := True.intro; rw [← Ny208.out] at ho; change Kd.R (Kd.int .u8) 5 w22 w.heap.size (fun _ => True) v209 y208 at ho; have n0_ := Aside0.mk (Kd.R_over' (by (with_reducible repeat (first | apply Kd.R_alloc | apply Kd.R_drewN | apply Kd.R_drew)); exact HO207.out) (Kd.R_typed (by (with_reducible repeat (first | apply Kd.R_alloc | apply Kd.R_drewN | apply Kd.R_drew)); exact HO_9.out)) (by decide) hg); have n1_ := Aside0.mk (hb); have n2_ := Aside0.mk (ho); clear HO207; clear HB; clear HO_9; have HO207 := n0_; have HB := n1_; have HO210 := n2_; clear n0_ n1_ n2_; clear ho hb hg hat; obtain ⟨Ao23, co23, eo23⟩ := Kd.R_slice HO210.out; subst eo23))
                                repeat (go_quiet (first | ((with_reducible refine gate_builtin (b := .append) (xs := #[.tmp 52, .tmp 55]) rfl ?_); at_builtin; refine Kd.R_append k46 (w0 := w) w.heap.size rfl (.tmp 52) (.tmp 55) 22 46 (.agg #[(.int .i64 0), (.int .i64 0), (.string ⟨#[]⟩)]) 32 rfl Try.underlying22 info46 rfl (by decide) (by omega) u8 x8_2 (⟨0, 0, a0.extract ((ji11) : Int).toNat ((wrap64 ((wrap64 (x6_2 + (wrap64 (bt a0 x6_2)))) + 2)) : Int).toNat⟩ : S46) [.int .i64 0, .int .i64 0, .string (a0.extract ((ji11) : Int).toNat ((wrap64 ((wrap64 (x6_2 + (wrap64 (bt a0 x6_2)))) + 2)) : Int).toNat)] (fun _ => True) (fun _ => False) rfl rfl ?aP (fun _ hk => hk.elim) ?aF ?aO ?aB ?aS ?aL ?_; (case aP => exact k46_mkM _ _ _ (⟨0, 0, a0.extract ((ji11) : Int).toNat ((wrap64 ((wrap64 (x6_2 + (wrap64 (bt a0 x6_2)))) + 2)) : Int).toNat⟩ : S46)); (case aB => exact (by repeat (first | (with_reducible first | exact HB.out | apply below_alloc | apply pw_below_drewN | apply below_drew1) | exact HB.out))); (case aF => exact (fun _ _ => trivial)); (case aO => exact (by (with_reducible repeat (first | apply Kd.R_alloc | apply Kd.R_drewN | apply Kd.R_drew)); exact HO_8.out)); (case aS => exact (below_size (by repeat (first | (with_reducible first | exact HB.out | apply below_alloc | apply pw_below_drewN | apply below_drew1) | exact HB.out)))); (case aL => have := LMc15.out; omega); intro v206 w21 ho hb hg hat; rw [← Ny205.out] at ho; have n0_ := Aside0.mk (Kd.R_over' (by (with_reducible repeat (first | apply Kd.R_alloc | apply Kd.R_drewN | apply Kd.R_drew)); exact HO_9.out) (Kd.R_typed (by (with_reducible repeat (first | apply Kd.R_alloc | apply Kd.R_drewN | apply Kd.R_drew)); exact HO_8.out)) (by decide) hg); have n1_ := Aside0.mk (hb); have n2_ := Aside0.mk (ho); clear HO_9; clear HB; clear HO_8; have HO_9 := n0_; have HB := n1_; have HO207 := n2_; clear n0_ n1_ n2_; clear ho hb hg hat) | (at_builtin; refine print_append_str (w0 := w) w.heap.size rfl (.tmp 57) _ 25 9 5 rfl Try.underlying25 Try.underlying9 info5 u9 x9_2 (a0.extract ((ji11) : Int).toNat ((wrap64 ((wrap64 (x6_2 + (wrap64 (bt a0 x6_2)))) + 2)) : Int).toNat) rfl rfl ?aO ?aB ?aS ?aL ?_; (case aB => exact (by repeat (first | (with_reducible first | exact HB.out | apply below_alloc | apply pw_below_drewN | apply below_drew1) | exact HB.out))); (case aO => exact (Kd.own_of_R (by (with_reducible repeat (first | apply Kd.R_alloc | apply Kd.R_drewN | apply Kd.R_drew)); exact HO_9.out))); (case aS => exact (below_size (by repeat (first | (with_reducible first | exact HB.out | apply below_alloc | apply pw_below_drewN | apply below_drew1) | exact HB.out)))); (case aL => have := LMc16.out; omega); intro v209 w22 ho0 hb hg; have ho := Kd.R_of_own (h1 := fun _ => rfl) (ok := fun _ => True) ho0 (fun _ _ => trivial); clear ho0; have hat := True.intro; rw [← Ny208.out] at ho; change Kd.R (Kd.int .u8) 5 w22 w.heap.size (fun _ => True) v209 y208 at ho; have n0_ := Aside0.mk (Kd.R_over' (by (with_reducible repeat (first | apply Kd.R_alloc | apply Kd.R_drewN | apply Kd.R_drew)); exact HO207.out) (Kd.R_typed (by (with_reducible repeat (first | apply Kd.R_alloc | apply Kd.R_drewN | apply Kd.R_drew)); exact HO_9.out)) (by decide) hg); have n1_ := Aside0.mk (hb); have n2_ := Aside0.mk (ho); clear HO207; clear HB; clear HO_9; have HO207 := n0_; have HB := n1_; have HO210 := n2_; clear n0_ n1_ n2_; clear ho hb hg hat; obtain ⟨Ao23, co23, eo23⟩ := Kd.R_slice HO210.out; subst eo23)); try go_wp2_with (first | ((with_reducible refine gate_builtin (b := .append) (xs := #[.tmp 52, .tmp 55]) rfl ?_); at_builtin; refine Kd.R_append k46 (w0 := w) w.heap.size rfl (.tmp 52) (.tmp 55) 22 46 (.agg #[(.int .i64 0), (.int .i64 0), (.string ⟨#[]⟩)]) 32 rfl Try.underlying22 info46 rfl (by decide) (by omega) u8 x8_2 (⟨0, 0, a0.extract ((ji11) : Int).toNat ((wrap64 ((wrap64 (x6_2 + (wrap64 (bt a0 x6_2)))) + 2)) : Int).toNat⟩ : S46) [.int .i64 0, .int .i64 0, .string (a0.extract ((ji11) : Int).toNat ((wrap64 ((wrap64 (x6_2 + (wrap64 (bt a0 x6_2)))) + 2)) : Int).toNat)] (fun _ => True) (fun _ => False) rfl rfl ?aP (fun _ hk => hk.elim) ?aF ?aO ?aB ?aS ?aL ?_; (case aP => exact k46_mkM _ _ _ (⟨0, 0, a0.extract ((ji11) : Int).toNat ((wrap64 ((wrap64 (x6_2 + (wrap64 (bt a0 x6_2)))) + 2)) : Int).toNat⟩ : S46)); (case aB => exact (by repeat (first | (with_reducible first | exact HB.out | apply below_alloc | apply pw_below_drewN | apply below_drew1) | exact HB.out))); (case aF => exact (fun _ _ => trivial)); (case aO => exact (by (with_reducible repeat (first | apply Kd.R_alloc | apply Kd.R_drewN | apply Kd.R_drew)); exact HO_8.out)); (case aS => exact (below_size (by repeat (first | (with_reducible first | exact HB.out | apply below_alloc | apply pw_below_drewN | apply below_drew1) | exact HB.out)))); (case aL => have := LMc15.out; omega); intro v206 w21 ho hb hg hat; rw [← Ny205.out] at ho; have n0_ := Aside0.mk (Kd.R_over' (by (with_reducible repeat (first | apply Kd.R_alloc | apply Kd.R_drewN | apply Kd.R_drew)); exact HO_9.out) (Kd.R_typed (by (with_reducible repeat (first | apply Kd.R_alloc | apply Kd.R_drewN | apply Kd.R_drew)); exact HO_8.out)) (by decide) hg); have n1_ := Aside0.mk (hb); have n2_ := Aside0.mk (ho); clear HO_9; clear HB; clear HO_8; have HO_9 := n0_; have HB := n1_; have HO207 := n2_; clear n0_ n1_ n2_; clear ho hb hg hat) | (at_builtin; refine print_append_str (w0 := w) w.heap.size rfl (.tmp 57) _ 25 9 5 rfl Try.underlying25 Try.underlying9 info5 u9 x9_2 (a0.extract ((ji11) : Int).toNat ((wrap64 ((wrap64 (x6_2 + (wrap64 (bt a0 x6_2)))) + 2)) : Int).toNat) rfl rfl ?aO ?aB ?aS ?aL ?_; (case aB => exact (by repeat (first | (with_reducible first | exact HB.out | apply below_alloc | apply pw_below_drewN | apply below_drew1) | exact HB.out))); (case aO => exact (Kd.own_of_R (by (with_reducible repeat (first | apply Kd.R_alloc | apply Kd.R_drewN | apply Kd.R_drew)); exact HO_9.out))); (case aS => exact (below_size (by repeat (first | (with_reducible first | exact HB.out | apply below_alloc | apply pw_below_drewN | apply below_drew1) | exact HB.out)))); (case aL => have := LMc16.out; omega); intro v209 w22 ho0 hb hg; have ho := Kd.R_of_own (h1 := fun _ => rfl) (ok := fun _ => True) ho0 (fun _ _ => trivial); clear ho0; have hat := True.intro; rw [← Ny208.out] at ho; change Kd.R (Kd.int .u8) 5 w22 w.heap.size (fun _ => True) v209 y208 at ho; have n0_ := Aside0.mk (Kd.R_over' (by (with_reducible repeat (first | apply Kd.R_alloc | apply Kd.R_drewN | apply Kd.R_drew)); exact HO207.out) (Kd.R_typed (by (with_reducible repeat (first | apply Kd.R_alloc | apply Kd.R_drewN | apply Kd.R_drew)); exact HO_9.out)) (by decide) hg); have n1_ := Aside0.mk (hb); have n2_ := Aside0.mk (ho); clear HO207; clear HB; clear HO_9; have HO207 := n0_; have HB := n1_; have HO210 := n2_; clear n0_ n1_ n2_; clear ho hb hg hat; obtain ⟨Ao23, co23, eo23⟩ := Kd.R_slice HO210.out; subst eo23)))
                                go_roundg k2
                                case measure => have := HJ2.out; have := HK2.out; omega
                                case rel => exact ⟨(wrap64 ((wrap64 (x6_2 + (wrap64 (bt a0 x6_2)))) + 2)), (y205), (y208), (by first | rfl | (simp; done) | (simp [*]; done)), H', ⟨by have := HJ2.out; have := HK2.out; omega⟩, ⟨by (with_reducible repeat (first | apply Kd.R_alloc | apply Kd.R_drewN | apply Kd.R_drew)); exact HO207.out⟩, ⟨by (with_reducible repeat (first | apply Kd.R_alloc | apply Kd.R_drewN | apply Kd.R_drew)); exact HO210.out⟩, ⟨by repeat (first | (with_reducible first | exact HB.out | apply below_alloc | apply pw_below_drewN | apply below_drew1) | exact HB.out)⟩⟩
                            · rw [if_neg c16] at H
                              exact absurd H (by simp)
                          · rw [if_neg c15] at H
                            exact absurd H (by simp)
                        · rw [if_neg c14] at H
                          exact absurd H (by simp)
                      · rw [if_neg c13] at H
                        exact absurd H (by simp)
                    · rw [if_neg c12] at H
                      exact absurd H (by simp)
                · rw [if_neg c9] at H
                  have c9b0 : decide ((wrap64 (bt a0 x6_2)) < 128) = false := decide_eq_false c9
                  clear c9
                  by_cases c24 : (wrap64 (x6_2 + 3)) > (a0.size : Int)
                  · rw [if_pos c24] at H
                    have c24b0 : decide ((a0.size : Int) < (wrap64 (x6_2 + 3))) = true := decide_eq_true c24
                    clear c24
                    simp only [Option.some.injEq, Prod.mk.injEq] at H
                    obtain ⟨rfl, rfl, rfl⟩ := H
                    have p8 : 0 ≤ (x6_2 : Int) := of_decide_eq_true (by first | (with_reducible assumption) | assumption)
                    have q8 : x6_2 < (a0.size : Int) := of_decide_eq_true (by first | (with_reducible assumption) | assumption)
                    have hx8 := bt_at a0 x6_2
                    replace p8 := eq_true p8
                    replace q8 := eq_true q8
                    go_wp2
                    repeat (go_quiet (fail); try go_wp2)
                    go_ret3
                    exact ⟨_, by first | rfl | (simp [errW_none, errW_some] <;> rfl) | (simp [*, errW_none, errW_some] <;> rfl), by first | exact Kd.R_nil _ _ _ _ _ | exact Kd.N_nil _ _ _ _ _ | exact Kd.V_nil _ _ _ _ _ | exact Kd.Q_nil _ _ _ _ _ | exact Kd.S_nil _ _ _ _ _, by repeat (first | (with_reducible first | exact HB.out | apply below_alloc | apply pw_below_drewN | apply below_drew1) | exact HB.out)⟩
                  · rw [if_neg c24] at H
                    have c24b0 : decide ((a0.size : Int) < (wrap64 (x6_2 + 3))) = false := decide_eq_false c24
                    clear c24
                    obtain ⟨ji25, hji25⟩ : ∃ j_ : Int, (wrap64 (x6_2 + 1)) = j_ := ⟨_, rfl⟩
                    replace H : (if 0 ≤ (ji25) then (if (ji25) < (a0.size : Int) then (if 0 ≤ (wrap64 (x6_2 + 2)) then (if (wrap64 (x6_2 + 2)) < (a0.size : Int) then (if (wrap64 ((wrap64 ((wrap64 (256 * (wrap64 (bt a0 (ji25))))) + (wrap64 (bt a0 (wrap64 (x6_2 + 2)))))) + 1)) > (x9_2.length : Int) then (some (([] : List (S46)), (⟨#[]⟩ : ByteArray), false)) else (strongroomref18_Tokens.l1 k2 a0 t202 x6_2 x8_2 x9_2 (wrap64 (bt a0 x6_2)) (wrap64 ((wrap64 ((wrap64 (256 * (wrap64 (bt a0 (ji25))))) + (wrap64 (bt a0 (wrap64 (x6_2 + 2)))))) + 1)) 0)) else (none)) else (none)) else (none)) else (none)) = some (r1, r2, r3) := by first | (rw [hji25] at H; exact H) | (simp only [hji25] at H ⊢; exact H)
                    have hji25w : (IntKind.i64.wrap (x6_2 + 1)) = ji25 := (i64_w _).trans hji25
                    by_cases c26 : 0 ≤ (ji25)
                    · rw [if_pos c26] at H
                      have c26b0 : decide (0 ≤ (ji25)) = true := decide_eq_true c26
                      clear c26
                      by_cases c27 : (ji25) < (a0.size : Int)
                      · rw [if_pos c27] at H
                        have c27b0 : decide ((ji25) < (a0.size : Int)) = true := decide_eq_true c27
                        clear c27
                        obtain ⟨ji29, hji29⟩ : ∃ j_ : Int, (wrap64 (x6_2 + 2)) = j_ := ⟨_, rfl⟩
                        replace H : (if 0 ≤ (ji29) then (if (ji29) < (a0.size : Int) then (if (wrap64 ((wrap64 ((wrap64 (256 * (wrap64 (bt a0 (ji25))))) + (wrap64 (bt a0 (ji29))))) + 1)) > (x9_2.length : Int) then (some (([] : List (S46)), (⟨#[]⟩ : ByteArray), false)) else (strongroomref18_Tokens.l1 k2 a0 t202 x6_2 x8_2 x9_2 (wrap64 (bt a0 x6_2)) (wrap64 ((wrap64 ((wrap64 (256 * (wrap64 (bt a0 (ji25))))) + (wrap64 (bt a0 (ji29))))) + 1)) 0)) else (none)) else (none)) = some (r1, r2, r3) := by first | (rw [hji29] at H; exact H) | (simp only [hji29] at H ⊢; exact H)
                        have hji29w : (IntKind.i64.wrap (x6_2 + 2)) = ji29 := (i64_w _).trans hji29
                        by_cases c30 : 0 ≤ (ji29)
                        · rw [if_pos c30] at H
                          have c30b0 : decide (0 ≤ (ji29)) = true := decide_eq_true c30
                          clear c30
                          by_cases c31 : (ji29) < (a0.size : Int)
                          · rw [if_pos c31] at H
                            have c31b0 : decide ((ji29) < (a0.size : Int)) = true := decide_eq_true c31
                            clear c31
                            by_cases c33 : (wrap64 ((wrap64 ((wrap64 (256 * (wrap64 (bt a0 (ji25))))) + (wrap64 (bt a0 (ji29))))) + 1)) > (x9_2.length : Int)
                            · rw [if_pos c33] at H
                              have c33b0 : decide ((x9_2.length : Int) < (wrap64 ((wrap64 ((wrap64 (256 * (wrap64 (bt a0 (ji25))))) + (wrap64 (bt a0 (ji29))))) + 1))) = true := decide_eq_true c33
                              clear c33
                              simp only [Option.some.injEq, Prod.mk.injEq] at H
                              obtain ⟨rfl, rfl, rfl⟩ := H
                              have p8 : 0 ≤ (x6_2 : Int) := of_decide_eq_true (by first | (with_reducible assumption) | assumption)
                              have q8 : x6_2 < (a0.size : Int) := of_decide_eq_true (by first | (with_reducible assumption) | assumption)
                              have hx8 := bt_at a0 x6_2
                              replace p8 := eq_true p8
                              replace q8 := eq_true q8
                              have p28 : 0 ≤ ((ji25) : Int) := of_decide_eq_true (by first | (with_reducible assumption) | assumption)
                              have q28 : (ji25) < (a0.size : Int) := of_decide_eq_true (by first | (with_reducible assumption) | assumption)
                              have hx28 := bt_at a0 (ji25)
                              replace p28 := eq_true p28
                              replace q28 := eq_true q28
                              have p32 : 0 ≤ ((ji29) : Int) := of_decide_eq_true (by first | (with_reducible assumption) | assumption)
                              have q32 : (ji29) < (a0.size : Int) := of_decide_eq_true (by first | (with_reducible assumption) | assumption)
                              have hx32 := bt_at a0 (ji29)
                              replace p32 := eq_true p32
                              replace q32 := eq_true q32
                              obtain ⟨Ao34, co34, eo34⟩ := Kd.R_slice HO_9.out
                              subst eo34
                              go_wp2
                              repeat (go_quiet (fail); try go_wp2)
                              go_ret3
                              exact ⟨_, by first | rfl | (simp [errW_none, errW_some] <;> rfl) | (simp only [← hji25, ← hji29]; first | rfl | (simp [errW_none, errW_some] <;> rfl)) | (simp [*, errW_none, errW_some] <;> rfl), by first | exact Kd.R_nil _ _ _ _ _ | exact Kd.N_nil _ _ _ _ _ | exact Kd.V_nil _ _ _ _ _ | exact Kd.Q_nil _ _ _ _ _ | exact Kd.S_nil _ _ _ _ _, by repeat (first | (with_reducible first | exact HB.out | apply below_alloc | apply pw_below_drewN | apply below_drew1) | exact HB.out)⟩
                            · rw [if_neg c33] at H
                              have c33b0 : decide ((x9_2.length : Int) < (wrap64 ((wrap64 ((wrap64 (256 * (wrap64 (bt a0 (ji25))))) + (wrap64 (bt a0 (ji29))))) + 1))) = false := decide_eq_false c33
                              clear c33
                              have H' := Aside0.mk H
                              clear H
                              have p8 : 0 ≤ (x6_2 : Int) := of_decide_eq_true (by first | (with_reducible assumption) | assumption)
                              have q8 : x6_2 < (a0.size : Int) := of_decide_eq_true (by first | (with_reducible assumption) | assumption)
                              have hx8 := bt_at a0 x6_2
                              replace p8 := eq_true p8
                              replace q8 := eq_true q8
                              have p28 : 0 ≤ ((ji25) : Int) := of_decide_eq_true (by first | (with_reducible assumption) | assumption)
                              have q28 : (ji25) < (a0.size : Int) := of_decide_eq_true (by first | (with_reducible assumption) | assumption)
                              have hx28 := bt_at a0 (ji25)
                              replace p28 := eq_true p28
                              replace q28 := eq_true q28
                              have p32 : 0 ≤ ((ji29) : Int) := of_decide_eq_true (by first | (with_reducible assumption) | assumption)
                              have q32 : (ji29) < (a0.size : Int) := of_decide_eq_true (by first | (with_reducible assumption) | assumption)
                              have hx32 := bt_at a0 (ji29)
                              replace p32 := eq_true p32
                              replace q32 := eq_true q32
                              obtain ⟨Ao35, co35, eo35⟩ := Kd.R_slice HO_9.out
                              subst eo35
                              go_wp2
                              repeat (go_quiet (fail); try go_wp2)
                              go_loopg [9, 13] k2 (fun kq v9 v13 w' => ∃ (x9_3 : List Int) (x13_3 : Int), v13 = .int .i64 x13_3 ∧ Aside0 (strongroomref18_Tokens.l1 kq a0 t202 x6_2 x8_2 x9_3 (wrap64 (bt a0 x6_2)) (wrap64 ((wrap64 ((wrap64 (256 * (wrap64 (bt a0 (ji25))))) + (wrap64 (bt a0 (ji29))))) + 1)) x13_3 = some (r1, r2, r3)) ∧ Aside0 (kq ≤ k2) ∧ Aside0 (Kd.R k46 46 w' w.heap.size (fun _ => True) u8 x8_2) ∧ Aside0 (Kd.R (Kd.int .u8) 5 w' w.heap.size (fun _ => True) v9 x9_3) ∧ Aside0 (Below w.heap.size w w'))
                              case atStart => exact ⟨(x9_2), (0), (by first | rfl | (simp; done) | (simp [*]; done)), H', ⟨Nat.le_refl _⟩, ⟨by (with_reducible repeat (first | apply Kd.R_alloc | apply Kd.R_drewN | apply Kd.R_drew)); exact HO_8.out⟩, ⟨by (with_reducible repeat (first | apply Kd.R_alloc | apply Kd.R_drewN | apply Kd.R_drew)); exact HO_9.out⟩, ⟨by repeat (first | (with_reducible first | exact HB.out | apply below_alloc | apply pw_below_drewN | apply below_drew1) | exact HB.out)⟩⟩
                              case round =>
                                clear H'
                                try clear c1
                                try clear c2
                                try clear p2
                                try clear q2
                                try clear hx2
                                try clear c3
                                try clear p3
                                try clear q3
                                try clear hx3
                                try clear c4
                                try clear c4b0
                                try clear c4b1
                                try clear c5
                                try clear c6
                                try clear c6b0
                                try clear p6
                                try clear c7
                                try clear c7b0
                                try clear p8
                                try clear q8
                                try clear hx8
                                try clear c9
                                try clear c9b0
                                try clear c10
                                try clear c10b0
                                try clear c12
                                try clear c12b0
                                try clear c12b1
                                try clear c13
                                try clear c13b0
                                try clear c13b1
                                try clear c14
                                try clear c14b0
                                try clear c14b1
                                try clear c15
                                try clear c16
                                try clear c17
                                try clear c17b0
                                try clear c24
                                try clear c24b0
                                try clear c26
                                try clear c26b0
                                try clear c27
                                try clear c27b0
                                try clear p28
                                try clear q28
                                try clear hx28
                                try clear c30
                                try clear c30b0
                                try clear c31
                                try clear c31b0
                                try clear p32
                                try clear q32
                                try clear hx32
                                try clear c33
                                try clear c33b0
                                try clear p2
                                try clear p28
                                try clear p32
                                try clear p8
                                try clear q28
                                try clear q32
                                try clear q8
                                obtain ⟨x9_3, x13_3, rfl, HA, HK3, HO_8, HO_9, HB⟩ := hrel
                                cases gk with
                                | zero => exact absurd HA.out (by simp [strongroomref18_Tokens.l1])
                                | succ k3 =>
                                  have H := HA.out
                                  clear HA
                                  simp only [strongroomref18_Tokens.l1] at H
                                  by_cases c36 : x13_3 < (wrap64 ((wrap64 (bt a0 x6_2)) - 125))
                                  · rw [if_pos c36] at H
                                    have c36b0 : decide (x13_3 < (wrap64 ((wrap64 (bt a0 x6_2)) - 125))) = true := decide_eq_true c36
                                    clear c36
                                    obtain ⟨ji37, hji37⟩ : ∃ j_ : Int, (wrap64 ((x9_3.length : Int) - (wrap64 ((wrap64 ((wrap64 (256 * (wrap64 (bt a0 (ji25))))) + (wrap64 (bt a0 (ji29))))) + 1)))) = j_ := ⟨_, rfl⟩
                                    replace H : (if 0 ≤ (ji37) then (if (ji37) < (x9_3.length : Int) then (if x9_3.length < 140737488355328 then (strongroomref18_Tokens.l1 k3 a0 t202 x6_2 x8_2 (x9_3 ++ [rd x9_3 (ji37)]) (wrap64 (bt a0 x6_2)) (wrap64 ((wrap64 ((wrap64 (256 * (wrap64 (bt a0 (ji25))))) + (wrap64 (bt a0 (ji29))))) + 1)) (wrap64 (x13_3 + 1))) else (none)) else (none)) else (none)) = some (r1, r2, r3) := by first | (rw [hji37] at H; exact H) | (simp only [hji37] at H ⊢; exact H)
                                    have hji37w : (IntKind.i64.wrap ((x9_3.length : Int) - (wrap64 ((wrap64 ((wrap64 (256 * (wrap64 (bt a0 (ji25))))) + (wrap64 (bt a0 (ji29))))) + 1)))) = ji37 := (i64_w _).trans hji37
                                    by_cases c38 : 0 ≤ (ji37)
                                    · rw [if_pos c38] at H
                                      have c38b0 : decide (0 ≤ (ji37)) = true := decide_eq_true c38
                                      clear c38
                                      by_cases c39 : (ji37) < (x9_3.length : Int)
                                      · rw [if_pos c39] at H
                                        have c39b0 : decide ((ji37) < (x9_3.length : Int)) = true := decide_eq_true c39
                                        clear c39
                                        by_cases c40 : x9_3.length < 140737488355328
                                        · rw [if_pos c40] at H
                                          have LMc40 := Aside0.mk c40
                                          clear c40
                                          obtain ⟨y212, hy212⟩ : ∃ y_ : List Int, y_ = (x9_3 ++ [rd x9_3 (ji37)]) := ⟨_, rfl⟩
                                          replace H : (strongroomref18_Tokens.l1 k3 a0 t202 x6_2 x8_2 y212 (wrap64 (bt a0 x6_2)) (wrap64 ((wrap64 ((wrap64 (256 * (wrap64 (bt a0 (ji25))))) + (wrap64 (bt a0 (ji29))))) + 1)) (wrap64 (x13_3 + 1))) = some (r1, r2, r3) := by first | (rw [hy212]; with_reducible exact H) | (have H2_ := (Option.bind_some _ _).symm.trans H; rw [hy212]; with_reducible exact H2_) | (have H2_ := (Option.bind_some _ _).symm.trans H; with_reducible exact H2_) | with_reducible exact H | (rw [hy212]; exact H) | exact H
                                          have Ny212 := Aside0.mk hy212
                                          clear hy212
                                          have H' := Aside0.mk H
                                          clear H
                                          obtain ⟨Ao41, co41, eo41⟩ := Kd.R_slice HO_9.out
                                          subst eo41
                                          have p211 : 0 ≤ ((ji37) : Int) := of_decide_eq_true (by first | (with_reducible assumption) | assumption)
                                          have q211 : (ji37) < (x9_3.length : Int) := of_decide_eq_true (by first | (with_reducible assumption) | assumption)
                                          obtain ⟨ad211, e211, hx211_0⟩ := Kd.at_int (Kd.R_reads' HO_9.out).2.2 (ji37) p211 q211
                                          cases e211
                                          replace p211 := eq_true p211
                                          replace q211 := eq_true q211
                                          go_wp2_with (first | ((with_reducible refine gate_builtin (b := .append) (xs := #[.tmp 99, .tmp 101]) rfl ?_); at_builtin; refine Kd.R_append (Kd.int .u8) (w0 := w) w.heap.size rfl (.tmp 99) (.tmp 101) 25 5 (.int .u8 0) 1 rfl Try.underlying25 info5 rfl (by decide) (by omega) (.slice (some ad211) x9_3.length co41) x9_3 (rd x9_3 (ji37)) [.int .u8 (rd x9_3 (ji37))] (fun _ => True) (fun _ => False) rfl rfl ?aP (fun _ hk => hk.elim) ?aF ?aO ?aB ?aS ?aL ?_; (case aP => exact rfl); (case aB => exact (by repeat (first | (with_reducible first | exact HB.out | apply below_alloc | apply pw_below_drewN | apply below_drew1) | exact HB.out))); (case aF => exact (fun _ _ => trivial)); (case aO => exact (by (with_reducible repeat (first | apply Kd.R_alloc | apply Kd.R_drewN | apply Kd.R_drew)); exact HO_9.out)); (case aS => exact (below_size (by repeat (first | (with_reducible first | exact HB.out | apply below_alloc | apply pw_below_drewN | apply below_drew1) | exact HB.out)))); (case aL => have := LMc40.out; omega); intro v213 w42 ho hb hg hat; rw [← Ny212.out] at ho; have n0_ := Aside0.mk (Kd.R_over' (by (with_reducible repeat (first | apply Kd.R_alloc | apply Kd.R_drewN | apply Kd.R_drew)); exact HO_8.out) (Kd.R_typed (by (with_reducible repeat (first | apply Kd.R_alloc | apply Kd.R_drewN | apply Kd.R_drew)); exact HO_9.out)) (by decide) hg); have n1_ := Aside0.mk (hb); have n2_ := Aside0.mk (ho); clear HO_8; clear HB; clear HO_9; have HO_8 := n0_; have HB := n1_; have HO214 := n2_; clear n0_ n1_ n2_; clear ho hb hg hat))
                                          repeat (go_quiet (first | ((with_reducible refine gate_builtin (b := .append) (xs := #[.tmp 99, .tmp 101]) rfl ?_); at_builtin; refine Kd.R_append (Kd.int .u8) (w0 := w) w.heap.size rfl (.tmp 99) (.tmp 101) 25 5 (.int .u8 0) 1 rfl Try.underlying25 info5 rfl (by decide) (by omega) (.slice (some ad211) x9_3.length co41) x9_3 (rd x9_3 (ji37)) [.int .u8 (rd x9_3 (ji37))] (fun _ => True) (fun _ => False) rfl rfl ?aP (fun _ hk => hk.elim) ?aF ?aO ?aB ?aS ?aL ?_; (case aP => exact rfl); (case aB => exact (by repeat (first | (with_reducible first | exact HB.out | apply below_alloc | apply pw_below_drewN | apply below_drew1) | exact HB.out))); (case aF => exact (fun _ _ => trivial)); (case aO => exact (by (with_reducible repeat (first | apply Kd.R_alloc | apply Kd.R_drewN | apply Kd.R_drew)); exact HO_9.out)); (case aS => exact (below_size (by repeat (first | (with_reducible first | exact HB.out | apply below_alloc | apply pw_below_drewN | apply below_drew1) | exact HB.out)))); (case aL => have := LMc40.out; omega); intro v213 w42 ho hb hg hat; rw [← Ny212.out] at ho; have n0_ := Aside0.mk (Kd.R_over' (by (with_reducible repeat (first | apply Kd.R_alloc | apply Kd.R_drewN | apply Kd.R_drew)); exact HO_8.out) (Kd.R_typed (by (with_reducible repeat (first | apply Kd.R_alloc | apply Kd.R_drewN | apply Kd.R_drew)); exact HO_9.out)) (by decide) hg); have n1_ := Aside0.mk (hb); have n2_ := Aside0.mk (ho); clear HO_8; clear HB; clear HO_9; have HO_8 := n0_; have HB := n1_; have HO214 := n2_; clear n0_ n1_ n2_; clear ho hb hg hat)); try go_wp2_with (first | ((with_reducible refine gate_builtin (b := .append) (xs := #[.tmp 99, .tmp 101]) rfl ?_); at_builtin; refine Kd.R_append (Kd.int .u8) (w0 := w) w.heap.size rfl (.tmp 99) (.tmp 101) 25 5 (.int .u8 0) 1 rfl Try.underlying25 info5 rfl (by decide) (by omega) (.slice (some ad211) x9_3.length co41) x9_3 (rd x9_3 (ji37)) [.int .u8 (rd x9_3 (ji37))] (fun _ => True) (fun _ => False) rfl rfl ?aP (fun _ hk => hk.elim) ?aF ?aO ?aB ?aS ?aL ?_; (case aP => exact rfl); (case aB => exact (by repeat (first | (with_reducible first | exact HB.out | apply below_alloc | apply pw_below_drewN | apply below_drew1) | exact HB.out))); (case aF => exact (fun _ _ => trivial)); (case aO => exact (by (with_reducible repeat (first | apply Kd.R_alloc | apply Kd.R_drewN | apply Kd.R_drew)); exact HO_9.out)); (case aS => exact (below_size (by repeat (first | (with_reducible first | exact HB.out | apply below_alloc | apply pw_below_drewN | apply below_drew1) | exact HB.out)))); (case aL => have := LMc40.out; omega); intro v213 w42 ho hb hg hat; rw [← Ny212.out] at ho; have n0_ := Aside0.mk (Kd.R_over' (by (with_reducible repeat (first | apply Kd.R_alloc | apply Kd.R_drewN | apply Kd.R_drew)); exact HO_8.out) (Kd.R_typed (by (with_reducible repeat (first | apply Kd.R_alloc | apply Kd.R_drewN | apply Kd.R_drew)); exact HO_9.out)) (by decide) hg); have n1_ := Aside0.mk (hb); have n2_ := Aside0.mk (ho); clear HO_8; clear HB; clear HO_9; have HO_8 := n0_; have HB := n1_; have HO214 := n2_; clear n0_ n1_ n2_; clear ho hb hg hat)))
                                          go_roundg k3
                                          case measure => have := HJ2.out; have := HK2.out; have := HK3.out; omega
                                          case rel => exact ⟨(y212), (wrap64 (x13_3 + 1)), (by first | rfl | (simp; done) | (simp [*]; done)), H', ⟨by have := HJ2.out; have := HK2.out; have := HK3.out; omega⟩, ⟨by (with_reducible repeat (first | apply Kd.R_alloc | apply Kd.R_drewN | apply Kd.R_drew)); exact HO_8.out⟩, ⟨by (with_reducible repeat (first | apply Kd.R_alloc | apply Kd.R_drewN | apply Kd.R_drew)); exact HO214.out⟩, ⟨by repeat (first | (with_reducible first | exact HB.out | apply below_alloc | apply pw_below_drewN | apply below_drew1) | exact HB.out)⟩⟩
                                        · rw [if_neg c40] at H
                                          exact absurd H (by simp)
                                      · rw [if_neg c39] at H
                                        exact absurd H (by simp)
                                    · rw [if_neg c38] at H
                                      exact absurd H (by simp)
                                  · rw [if_neg c36] at H
                                    have c36b0 : decide (x13_3 < (wrap64 ((wrap64 (bt a0 x6_2)) - 125))) = false := decide_eq_false c36
                                    clear c36
                                    by_cases c43 : x8_2.length < 4398046511104
                                    · rw [if_pos c43] at H
                                      have LMc43 := Aside0.mk c43
                                      clear c43
                                      obtain ⟨y215, hy215⟩ : ∃ y_ : List (S46), y_ = (x8_2 ++ [(⟨(wrap64 ((wrap64 ((wrap64 (256 * (wrap64 (bt a0 (ji25))))) + (wrap64 (bt a0 (ji29))))) + 1)), wrap64 ((wrap64 (bt a0 x6_2)) - 125), (⟨#[]⟩ : ByteArray)⟩ : S46)]) := ⟨_, rfl⟩
                                      replace H : (if (IntKind.u64.wrap ((x9_3.length : Int))) > t202 then (some (([] : List (S46)), (⟨#[]⟩ : ByteArray), false)) else (strongroomref18_Tokens.l0 k3 a0 t202 (wrap64 (x6_2 + 3)) y215 x9_3)) = some (r1, r2, r3) := by first | (rw [hy215]; with_reducible exact H) | (have H2_ := (Option.bind_some _ _).symm.trans H; rw [hy215]; with_reducible exact H2_) | (have H2_ := (Option.bind_some _ _).symm.trans H; with_reducible exact H2_) | with_reducible exact H | (rw [hy215]; exact H) | exact H
                                      have Ny215 := Aside0.mk hy215
                                      clear hy215
                                      by_cases c44 : (IntKind.u64.wrap ((x9_3.length : Int))) > t202
                                      · rw [if_pos c44] at H
                                        have c44b0 : decide (t202 < (IntKind.u64.wrap ((x9_3.length : Int)))) = true := decide_eq_true c44
                                        clear c44
                                        simp only [Option.some.injEq, Prod.mk.injEq] at H
                                        obtain ⟨rfl, rfl, rfl⟩ := H
                                        go_wp2_with (first | ((with_reducible refine gate_builtin (b := .append) (xs := #[.tmp 103, .tmp 108]) rfl ?_); at_builtin; refine Kd.R_append k46 (w0 := w) w.heap.size rfl (.tmp 103) (.tmp 108) 22 46 (.agg #[(.int .i64 0), (.int .i64 0), (.string ⟨#[]⟩)]) 32 rfl Try.underlying22 info46 rfl (by decide) (by omega) u8 x8_2 (⟨(wrap64 ((wrap64 ((wrap64 (256 * (wrap64 (bt a0 (ji25))))) + (wrap64 (bt a0 (ji29))))) + 1)), wrap64 ((wrap64 (bt a0 x6_2)) - 125), (⟨#[]⟩ : ByteArray)⟩ : S46) [.int .i64 (wrap64 ((wrap64 ((wrap64 (256 * (wrap64 (bt a0 (ji25))))) + (wrap64 (bt a0 (ji29))))) + 1)), .int .i64 (wrap64 ((wrap64 (bt a0 x6_2)) - 125)), .string (⟨#[]⟩ : ByteArray)] (fun _ => True) (fun _ => False) rfl rfl ?aP (fun _ hk => hk.elim) ?aF ?aO ?aB ?aS ?aL ?_; (case aP => exact k46_mkM _ _ _ (⟨(wrap64 ((wrap64 ((wrap64 (256 * (wrap64 (bt a0 (ji25))))) + (wrap64 (bt a0 (ji29))))) + 1)), wrap64 ((wrap64 (bt a0 x6_2)) - 125), (⟨#[]⟩ : ByteArray)⟩ : S46)); (case aB => exact (by repeat (first | (with_reducible first | exact HB.out | apply below_alloc | apply pw_below_drewN | apply below_drew1) | exact HB.out))); (case aF => exact (fun _ _ => trivial)); (case aO => exact (by (with_reducible repeat (first | apply Kd.R_alloc | apply Kd.R_drewN | apply Kd.R_drew)); exact HO_8.out)); (case aS => exact (below_size (by repeat (first | (with_reducible first | exact HB.out | apply below_alloc | apply pw_below_drewN | apply below_drew1) | exact HB.out)))); (case aL => have := LMc43.out; omega); intro v216 w45 ho hb hg hat; rw [← Ny215.out] at ho; have n0_ := Aside0.mk (Kd.R_over' (by (with_reducible repeat (first | apply Kd.R_alloc | apply Kd.R_drewN | apply Kd.R_drew)); exact HO_9.out) (Kd.R_typed (by (with_reducible repeat (first | apply Kd.R_alloc | apply Kd.R_drewN | apply Kd.R_drew)); exact HO_8.out)) (by decide) hg); have n1_ := Aside0.mk (hb); have n2_ := Aside0.mk (ho); clear HO_9; clear HB; clear HO_8; have HO_9 := n0_; have HB := n1_; have HO217 := n2_; clear n0_ n1_ n2_; clear ho hb hg hat; obtain ⟨Ao46, co46, eo46⟩ := Kd.R_slice HO_9.out; subst eo46))
                                        repeat (go_quiet (first | ((with_reducible refine gate_builtin (b := .append) (xs := #[.tmp 103, .tmp 108]) rfl ?_); at_builtin; refine Kd.R_append k46 (w0 := w) w.heap.size rfl (.tmp 103) (.tmp 108) 22 46 (.agg #[(.int .i64 0), (.int .i64 0), (.string ⟨#[]⟩)]) 32 rfl Try.underlying22 info46 rfl (by decide) (by omega) u8 x8_2 (⟨(wrap64 ((wrap64 ((wrap64 (256 * (wrap64 (bt a0 (ji25))))) + (wrap64 (bt a0 (ji29))))) + 1)), wrap64 ((wrap64 (bt a0 x6_2)) - 125), (⟨#[]⟩ : ByteArray)⟩ : S46) [.int .i64 (wrap64 ((wrap64 ((wrap64 (256 * (wrap64 (bt a0 (ji25))))) + (wrap64 (bt a0 (ji29))))) + 1)), .int .i64 (wrap64 ((wrap64 (bt a0 x6_2)) - 125)), .string (⟨#[]⟩ : ByteArray)] (fun _ => True) (fun _ => False) rfl rfl ?aP (fun _ hk => hk.elim) ?aF ?aO ?aB ?aS ?aL ?_; (case aP => exact k46_mkM _ _ _ (⟨(wrap64 ((wrap64 ((wrap64 (256 * (wrap64 (bt a0 (ji25))))) + (wrap64 (bt a0 (ji29))))) + 1)), wrap64 ((wrap64 (bt a0 x6_2)) - 125), (⟨#[]⟩ : ByteArray)⟩ : S46)); (case aB => exact (by repeat (first | (with_reducible first | exact HB.out | apply below_alloc | apply pw_below_drewN | apply below_drew1) | exact HB.out))); (case aF => exact (fun _ _ => trivial)); (case aO => exact (by (with_reducible repeat (first | apply Kd.R_alloc | apply Kd.R_drewN | apply Kd.R_drew)); exact HO_8.out)); (case aS => exact (below_size (by repeat (first | (with_reducible first | exact HB.out | apply below_alloc | apply pw_below_drewN | apply below_drew1) | exact HB.out)))); (case aL => have := LMc43.out; omega); intro v216 w45 ho hb hg hat; rw [← Ny215.out] at ho; have n0_ := Aside0.mk (Kd.R_over' (by (with_reducible repeat (first | apply Kd.R_alloc | apply Kd.R_drewN | apply Kd.R_drew)); exact HO_9.out) (Kd.R_typed (by (with_reducible repeat (first | apply Kd.R_alloc | apply Kd.R_drewN | apply Kd.R_drew)); exact HO_8.out)) (by decide) hg); have n1_ := Aside0.mk (hb); have n2_ := Aside0.mk (ho); clear HO_9; clear HB; clear HO_8; have HO_9 := n0_; have HB := n1_; have HO217 := n2_; clear n0_ n1_ n2_; clear ho hb hg hat; obtain ⟨Ao46, co46, eo46⟩ := Kd.R_slice HO_9.out; subst eo46)); try go_wp2_with (first | ((with_reducible refine gate_builtin (b := .append) (xs := #[.tmp 103, .tmp 108]) rfl ?_); at_builtin; refine Kd.R_append k46 (w0 := w) w.heap.size rfl (.tmp 103) (.tmp 108) 22 46 (.agg #[(.int .i64 0), (.int .i64 0), (.string ⟨#[]⟩)]) 32 rfl Try.underlying22 info46 rfl (by decide) (by omega) u8 x8_2 (⟨(wrap64 ((wrap64 ((wrap64 (256 * (wrap64 (bt a0 (ji25))))) + (wrap64 (bt a0 (ji29))))) + 1)), wrap64 ((wrap64 (bt a0 x6_2)) - 125), (⟨#[]⟩ : ByteArray)⟩ : S46) [.int .i64 (wrap64 ((wrap64 ((wrap64 (256 * (wrap64 (bt a0 (ji25))))) + (wrap64 (bt a0 (ji29))))) + 1)), .int .i64 (wrap64 ((wrap64 (bt a0 x6_2)) - 125)), .string (⟨#[]⟩ : ByteArray)] (fun _ => True) (fun _ => False) rfl rfl ?aP (fun _ hk => hk.elim) ?aF ?aO ?aB ?aS ?aL ?_; (case aP => exact k46_mkM _ _ _ (⟨(wrap64 ((wrap64 ((wrap64 (256 * (wrap64 (bt a0 (ji25))))) + (wrap64 (bt a0 (ji29))))) + 1)), wrap64 ((wrap64 (bt a0 x6_2)) - 125), (⟨#[]⟩ : ByteArray)⟩ : S46)); (case aB => exact (by repeat (first | (with_reducible first | exact HB.out | apply below_alloc | apply pw_below_drewN | apply below_drew1) | exact HB.out))); (case aF => exact (fun _ _ => trivial)); (case aO => exact (by (with_reducible repeat (first | apply Kd.R_alloc | apply Kd.R_drewN | apply Kd.R_drew)); exact HO_8.out)); (case aS => exact (below_size (by repeat (first | (with_reducible first | exact HB.out | apply below_alloc | apply pw_below_drewN | apply below_drew1) | exact HB.out)))); (case aL => have := LMc43.out; omega); intro v216 w45 ho hb hg hat; rw [← Ny215.out] at ho; have n0_ := Aside0.mk (Kd.R_over' (by (with_reducible repeat (first | apply Kd.R_alloc | apply Kd.R_drewN | apply Kd.R_drew)); exact HO_9.out) (Kd.R_typed (by (with_reducible repeat (first | apply Kd.R_alloc | apply Kd.R_drewN | apply Kd.R_drew)); exact HO_8.out)) (by decide) hg); have n1_ := Aside0.mk (hb); have n2_ := Aside0.mk (ho); clear HO_9; clear HB; clear HO_8; have HO_9 := n0_; have HB := n1_; have HO217 := n2_; clear n0_ n1_ n2_; clear ho hb hg hat; obtain ⟨Ao46, co46, eo46⟩ := Kd.R_slice HO_9.out; subst eo46)))
                                        go_ret3
                                        exact ⟨_, by first | rfl | (simp [errW_none, errW_some] <;> rfl) | (simp only [← hji25, ← hji29]; first | rfl | (simp [errW_none, errW_some] <;> rfl)) | (simp [*, errW_none, errW_some] <;> rfl), by first | exact Kd.R_nil _ _ _ _ _ | exact Kd.N_nil _ _ _ _ _ | exact Kd.V_nil _ _ _ _ _ | exact Kd.Q_nil _ _ _ _ _ | exact Kd.S_nil _ _ _ _ _, by repeat (first | (with_reducible first | exact HB.out | apply below_alloc | apply pw_below_drewN | apply below_drew1) | exact HB.out)⟩
                                      · rw [if_neg c44] at H
                                        have c44b0 : decide (t202 < (IntKind.u64.wrap ((x9_3.length : Int)))) = false := decide_eq_false c44
                                        clear c44
                                        have H' := Aside0.mk H
                                        clear H
                                        go_wp2_with (first | ((with_reducible refine gate_builtin (b := .append) (xs := #[.tmp 103, .tmp 108]) rfl ?_); at_builtin; refine Kd.R_append k46 (w0 := w) w.heap.size rfl (.tmp 103) (.tmp 108) 22 46 (.agg #[(.int .i64 0), (.int .i64 0), (.string ⟨#[]⟩)]) 32 rfl Try.underlying22 info46 rfl (by decide) (by omega) u8 x8_2 (⟨(wrap64 ((wrap64 ((wrap64 (256 * (wrap64 (bt a0 (ji25))))) + (wrap64 (bt a0 (ji29))))) + 1)), wrap64 ((wrap64 (bt a0 x6_2)) - 125), (⟨#[]⟩ : ByteArray)⟩ : S46) [.int .i64 (wrap64 ((wrap64 ((wrap64 (256 * (wrap64 (bt a0 (ji25))))) + (wrap64 (bt a0 (ji29))))) + 1)), .int .i64 (wrap64 ((wrap64 (bt a0 x6_2)) - 125)), .string (⟨#[]⟩ : ByteArray)] (fun _ => True) (fun _ => False) rfl rfl ?aP (fun _ hk => hk.elim) ?aF ?aO ?aB ?aS ?aL ?_; (case aP => exact k46_mkM _ _ _ (⟨(wrap64 ((wrap64 ((wrap64 (256 * (wrap64 (bt a0 (ji25))))) + (wrap64 (bt a0 (ji29))))) + 1)), wrap64 ((wrap64 (bt a0 x6_2)) - 125), (⟨#[]⟩ : ByteArray)⟩ : S46)); (case aB => exact (by repeat (first | (with_reducible first | exact HB.out | apply below_alloc | apply pw_below_drewN | apply below_drew1) | exact HB.out))); (case aF => exact (fun _ _ => trivial)); (case aO => exact (by (with_reducible repeat (first | apply Kd.R_alloc | apply Kd.R_drewN | apply Kd.R_drew)); exact HO_8.out)); (case aS => exact (below_size (by repeat (first | (with_reducible first | exact HB.out | apply below_alloc | apply pw_below_drewN | apply below_drew1) | exact HB.out)))); (case aL => have := LMc43.out; omega); intro v216 w47 ho hb hg hat; rw [← Ny215.out] at ho; have n0_ := Aside0.mk (Kd.R_over' (by (with_reducible repeat (first | apply Kd.R_alloc | apply Kd.R_drewN | apply Kd.R_drew)); exact HO_9.out) (Kd.R_typed (by (with_reducible repeat (first | apply Kd.R_alloc | apply Kd.R_drewN | apply Kd.R_drew)); exact HO_8.out)) (by decide) hg); have n1_ := Aside0.mk (hb); have n2_ := Aside0.mk (ho); clear HO_9; clear HB; clear HO_8; have HO_9 := n0_; have HB := n1_; have HO217 := n2_; clear n0_ n1_ n2_; clear ho hb hg hat; obtain ⟨Ao48, co48, eo48⟩ := Kd.R_slice HO_9.out; subst eo48))
                                        repeat (go_quiet (first | ((with_reducible refine gate_builtin (b := .append) (xs := #[.tmp 103, .tmp 108]) rfl ?_); at_builtin; refine Kd.R_append k46 (w0 := w) w.heap.size rfl (.tmp 103) (.tmp 108) 22 46 (.agg #[(.int .i64 0), (.int .i64 0), (.string ⟨#[]⟩)]) 32 rfl Try.underlying22 info46 rfl (by decide) (by omega) u8 x8_2 (⟨(wrap64 ((wrap64 ((wrap64 (256 * (wrap64 (bt a0 (ji25))))) + (wrap64 (bt a0 (ji29))))) + 1)), wrap64 ((wrap64 (bt a0 x6_2)) - 125), (⟨#[]⟩ : ByteArray)⟩ : S46) [.int .i64 (wrap64 ((wrap64 ((wrap64 (256 * (wrap64 (bt a0 (ji25))))) + (wrap64 (bt a0 (ji29))))) + 1)), .int .i64 (wrap64 ((wrap64 (bt a0 x6_2)) - 125)), .string (⟨#[]⟩ : ByteArray)] (fun _ => True) (fun _ => False) rfl rfl ?aP (fun _ hk => hk.elim) ?aF ?aO ?aB ?aS ?aL ?_; (case aP => exact k46_mkM _ _ _ (⟨(wrap64 ((wrap64 ((wrap64 (256 * (wrap64 (bt a0 (ji25))))) + (wrap64 (bt a0 (ji29))))) + 1)), wrap64 ((wrap64 (bt a0 x6_2)) - 125), (⟨#[]⟩ : ByteArray)⟩ : S46)); (case aB => exact (by repeat (first | (with_reducible first | exact HB.out | apply below_alloc | apply pw_below_drewN | apply below_drew1) | exact HB.out))); (case aF => exact (fun _ _ => trivial)); (case aO => exact (by (with_reducible repeat (first | apply Kd.R_alloc | apply Kd.R_drewN | apply Kd.R_drew)); exact HO_8.out)); (case aS => exact (below_size (by repeat (first | (with_reducible first | exact HB.out | apply below_alloc | apply pw_below_drewN | apply below_drew1) | exact HB.out)))); (case aL => have := LMc43.out; omega); intro v216 w47 ho hb hg hat; rw [← Ny215.out] at ho; have n0_ := Aside0.mk (Kd.R_over' (by (with_reducible repeat (first | apply Kd.R_alloc | apply Kd.R_drewN | apply Kd.R_drew)); exact HO_9.out) (Kd.R_typed (by (with_reducible repeat (first | apply Kd.R_alloc | apply Kd.R_drewN | apply Kd.R_drew)); exact HO_8.out)) (by decide) hg); have n1_ := Aside0.mk (hb); have n2_ := Aside0.mk (ho); clear HO_9; clear HB; clear HO_8; have HO_9 := n0_; have HB := n1_; have HO217 := n2_; clear n0_ n1_ n2_; clear ho hb hg hat; obtain ⟨Ao48, co48, eo48⟩ := Kd.R_slice HO_9.out; subst eo48)); try go_wp2_with (first | ((with_reducible refine gate_builtin (b := .append) (xs := #[.tmp 103, .tmp 108]) rfl ?_); at_builtin; refine Kd.R_append k46 (w0 := w) w.heap.size rfl (.tmp 103) (.tmp 108) 22 46 (.agg #[(.int .i64 0), (.int .i64 0), (.string ⟨#[]⟩)]) 32 rfl Try.underlying22 info46 rfl (by decide) (by omega) u8 x8_2 (⟨(wrap64 ((wrap64 ((wrap64 (256 * (wrap64 (bt a0 (ji25))))) + (wrap64 (bt a0 (ji29))))) + 1)), wrap64 ((wrap64 (bt a0 x6_2)) - 125), (⟨#[]⟩ : ByteArray)⟩ : S46) [.int .i64 (wrap64 ((wrap64 ((wrap64 (256 * (wrap64 (bt a0 (ji25))))) + (wrap64 (bt a0 (ji29))))) + 1)), .int .i64 (wrap64 ((wrap64 (bt a0 x6_2)) - 125)), .string (⟨#[]⟩ : ByteArray)] (fun _ => True) (fun _ => False) rfl rfl ?aP (fun _ hk => hk.elim) ?aF ?aO ?aB ?aS ?aL ?_; (case aP => exact k46_mkM _ _ _ (⟨(wrap64 ((wrap64 ((wrap64 (256 * (wrap64 (bt a0 (ji25))))) + (wrap64 (bt a0 (ji29))))) + 1)), wrap64 ((wrap64 (bt a0 x6_2)) - 125), (⟨#[]⟩ : ByteArray)⟩ : S46)); (case aB => exact (by repeat (first | (with_reducible first | exact HB.out | apply below_alloc | apply pw_below_drewN | apply below_drew1) | exact HB.out))); (case aF => exact (fun _ _ => trivial)); (case aO => exact (by (with_reducible repeat (first | apply Kd.R_alloc | apply Kd.R_drewN | apply Kd.R_drew)); exact HO_8.out)); (case aS => exact (below_size (by repeat (first | (with_reducible first | exact HB.out | apply below_alloc | apply pw_below_drewN | apply below_drew1) | exact HB.out)))); (case aL => have := LMc43.out; omega); intro v216 w47 ho hb hg hat; rw [← Ny215.out] at ho; have n0_ := Aside0.mk (Kd.R_over' (by (with_reducible repeat (first | apply Kd.R_alloc | apply Kd.R_drewN | apply Kd.R_drew)); exact HO_9.out) (Kd.R_typed (by (with_reducible repeat (first | apply Kd.R_alloc | apply Kd.R_drewN | apply Kd.R_drew)); exact HO_8.out)) (by decide) hg); have n1_ := Aside0.mk (hb); have n2_ := Aside0.mk (ho); clear HO_9; clear HB; clear HO_8; have HO_9 := n0_; have HB := n1_; have HO217 := n2_; clear n0_ n1_ n2_; clear ho hb hg hat; obtain ⟨Ao48, co48, eo48⟩ := Kd.R_slice HO_9.out; subst eo48)))
                                        go_roundg k3
                                        case measure => have := HJ2.out; have := HK2.out; have := HK3.out; omega
                                        case rel => exact ⟨(wrap64 (x6_2 + 3)), (y215), (x9_3), (by first | rfl | (simp; done) | (simp [*]; done)), H', ⟨by have := HJ2.out; have := HK2.out; have := HK3.out; omega⟩, ⟨by (with_reducible repeat (first | apply Kd.R_alloc | apply Kd.R_drewN | apply Kd.R_drew)); exact HO217.out⟩, ⟨by (with_reducible repeat (first | apply Kd.R_alloc | apply Kd.R_drewN | apply Kd.R_drew)); exact HO_9.out⟩, ⟨by repeat (first | (with_reducible first | exact HB.out | apply below_alloc | apply pw_below_drewN | apply below_drew1) | exact HB.out)⟩⟩
                                    · rw [if_neg c43] at H
                                      exact absurd H (by simp)
                          · rw [if_neg c31] at H
                            exact absurd H (by simp)
                        · rw [if_neg c30] at H
                          exact absurd H (by simp)
                      · rw [if_neg c27] at H
                        exact absurd H (by simp)
                    · rw [if_neg c26] at H
                      exact absurd H (by simp)
              · rw [if_neg c7] at H
                exact absurd H (by simp)
            · rw [if_neg c6] at H
              have c6b0 : decide (x6_2 < (a0.size : Int)) = false := decide_eq_false c6
              clear c6
              simp only [Option.some.injEq, Prod.mk.injEq] at H
              obtain ⟨rfl, rfl, rfl⟩ := H
              obtain ⟨Ao50, co50, eo50⟩ := Kd.R_slice HO_9.out
              subst eo50
              have HCV := Lib.hid (fun wx (hG : Grew wr wx) => own_string (P := Try.prog) Try.underlying25 Try.underlying5 Try.underlying9 (pw_own_below (Kd.own_of_R HO_9.out) hG))
              go_wp2
              apply region_grew [Is _, Is _, Is _, Is _, Is _, Is _, Is _, Is _, Is _, Is _] [([(8, none)], none), ([(9, none)], none), ([(118, some 1)], none), ([(9, none)], none), ([(120, some 3)], none), ([(121, some 4)], none), ([(5, none)], none), ([(122, some 5), (123, some 6)], none), ([(117, some 0)], none), ([(119, some 2)], none)] [(2, 8), (3, 9), (117, 0), (118, 1), (119, 2), (120, 3), (121, 4), (122, 5), (123, 6), (124, 7)] rfl (by kernel_rfl) (by kernel_rfl) (show Stable Grew _ from ⟨Is.stable _, Is.stable _, Is.stable _, Is.stable _, Is.stable _, Is.stable _, Is.stable _, Is.stable _, Is.stable _, Is.stable _, trivial⟩)
              · show OpsHold _ _ _ _ _ _ _ _ _
                refine ⟨fun a_ wx hR hD K hK => ?_, ?_⟩
                · have hG : Grew wr wx := (Grew.drew _).trans hR
                  simp [Deps, Dep, at_, Is] at hD
                  go_simp
                  exact hK _ _ (Grew.refl _) rfl
                refine ⟨fun a_ wx hR hD K hK => ?_, ?_⟩
                · have hG : Grew wr wx := (Grew.drew _).trans hR
                  simp [Deps, Dep, at_, Is] at hD
                  go_simp
                  exact hK _ _ (Grew.refl _) rfl
                refine ⟨fun a_ wx hR hD K hK => ?_, ?_⟩
                · have hG : Grew wr wx := (Grew.drew _).trans hR
                  simp [Deps, Dep, at_, Is] at hD
                  have e_ := HCV.out wx hG
                  go_simp
                  exact hK _ _ (Grew.refl _) rfl
                refine ⟨fun a_ wx hR hD K hK => ?_, ?_⟩
                · have hG : Grew wr wx := (Grew.drew _).trans hR
                  simp [Deps, Dep, at_, Is] at hD
                  go_simp
                  exact hK _ _ (Grew.refl _) rfl
                refine ⟨fun a_ wx hR hD K hK => ?_, ?_⟩
                · have hG : Grew wr wx := (Grew.drew _).trans hR
                  simp [Deps, Dep, at_, Is] at hD
                  go_simp
                  exact hK _ _ (Grew.refl _) rfl
                refine ⟨fun a_ wx hR hD K hK => ?_, ?_⟩
                · have hG : Grew wr wx := (Grew.drew _).trans hR
                  simp [Deps, Dep, at_, Is] at hD
                  go_simp
                  exact hK _ _ (Grew.refl _) rfl
                refine ⟨fun a_ wx hR hD K hK => ?_, ?_⟩
                · have hG : Grew wr wx := (Grew.drew _).trans hR
                  simp [Deps, Dep, at_, Is] at hD
                  go_simp
                  exact hK _ _ (Grew.refl _) rfl
                refine ⟨fun a_ wx hR hD K hK => ?_, ?_⟩
                · have hG : Grew wr wx := (Grew.drew _).trans hR
                  simp [Deps, Dep, at_, Is] at hD
                  obtain ⟨hd0, hd1⟩ := hD
                  go_simp
                  exact hK _ _ (Grew.refl _) rfl
                refine ⟨fun a_ wx hR hD K hK => ?_, ?_⟩
                · have hG : Grew wr wx := (Grew.drew _).trans hR
                  simp [Deps, Dep, at_, Is] at hD
                  go_simp
                  exact hK _ _ (Grew.refl _) rfl
                refine ⟨fun a_ wx hR hD K hK => ?_, ?_⟩
                · have hG : Grew wr wx := (Grew.drew _).trans hR
                  simp [Deps, Dep, at_, Is] at hD
                  go_simp
                  exact hK _ _ (Grew.refl _) rfl
                trivial
              · show EndHold _ _ _ _ _ _ _
                refine end_all (xs := [_, _, _, _, _, _, _, _, _, _]) ⟨rfl, rfl, rfl, rfl, rfl, rfl, rfl, rfl, rfl, rfl, trivial⟩ ?_
                rintro w7 hR1 -
                refine ⟨?_⟩
                have hG_w7 : Grew wr w7 := (Grew.drew _).trans hR1
                clear hR1
                simp only [Act.put, List.setIfInBounds_toArray, List.set_cons_succ, List.set_cons_zero, dropN, putEach]
                go_wp2
                go_ret3
                exact ⟨_, rfl, Kd.R_below HO_8.out hG_w7, Grew.trans HB.out hG_w7⟩
end Go.Proofs.Ytehbebpemnanoaa.F

-- LzS
namespace Go.Proofs.Ytehbebpemnanoaa.F
open Go Go.RowKit Go.Proofs.YtehbebpemnanoaaW.PrintWords Go.Proofs.YtehbebpemnanoaaW.PrintLast Go.Proofs.YtehbebpemnanoaaW.PrintMore Go.Proofs.YtehbebpemnanoaaM Go.Proofs.YtehbebpemnanoaaR
set_option linter.unusedSimpArgs false
set_option linter.unusedVariables false
set_option maxRecDepth 100000
theorem bt_l {l : List Int} (hb : ∀ x ∈ l, 0 ≤ x ∧ x < 256) (i : Nat) (h : i < l.length) : bt (strOfNums l) (i : Int) = l.getD i 0 := by
  rw [bt_at' _ _ (by rw [str_size]; exact h)]
  have e := bytesOf_str hb
  simp only [e]
  simp [List.getD, h]
theorem str_extract2 (l : List Int) (a b : Nat) : (strOfNums l).extract a b = strOfNums ((l.take b).drop a) := by
  apply ByteArray.ext
  apply Array.ext'
  simp only [strOfNums, ByteArray.data_extract, Array.toList_extract, List.extract_eq_take_drop, List.map_drop, List.map_take, List.drop_take]
theorem rt_l1 (s : ByteArray) (n : Nat) (a : Int) (x8 : List S46) (S b : Nat) (hS : S ≤ 130) (hS3 : 3 ≤ S) (hn : n ≤ 65536) (h8 : x8.length < 4398046511104) (hb1 : 1 ≤ b) : ∀ (j k i : Nat) (cur : List Int), i + j = S → b ≤ cur.length → cur.length + j ≤ n →
    strongroomref18_Tokens.l1 (k + (j + 1)) s (n : Int) a x8 cur ((S : Int) + 125) (b : Int) (i : Int) = strongroomref18_Tokens.l0 k s (n : Int) (wrap64 (a + 3)) (x8 ++ [⟨(b : Int), (S : Int), ⟨#[]⟩⟩]) (backL b j cur)
  | 0, k, i, cur, hi, hb, hc => by
    simp only [strongroomref18_Tokens.l1]
    obtain ⟨e1, e2⟩ : wrap64 ((S : Int) + 125 - 125) = (S : Int) ∧ IntKind.u64.wrap (cur.length : Int) = (cur.length : Int) := ⟨by rw [w64 (by omega) (by omega)]; omega, by rw [u64_wrap]; omega⟩
    rw [e1, e2]
    clear e1 e2
    refine (if_neg (by omega)).trans ?_
    refine (if_pos h8).trans ?_
    exact (if_neg (by omega)).trans rfl
  | j + 1, k, i, cur, hi, hb, hc => by
    rw [show k + (j + 1 + 1) = (k + (j + 1)) + 1 from by omega, strongroomref18_Tokens.l1]
    obtain ⟨e1, e2, e3⟩ : wrap64 ((S : Int) + 125 - 125) = (S : Int) ∧ wrap64 ((cur.length : Int) - (b : Int)) = ((cur.length - b : Nat) : Int) ∧ wrap64 ((i : Int) + 1) = ((i + 1 : Nat) : Int) := ⟨by rw [w64 (by omega) (by omega)]; omega, by rw [w64 (by omega) (by omega)]; omega, by rw [w64 (by omega) (by omega)]; omega⟩
    rw [e1, e2, e3]
    clear e1 e2 e3
    refine (if_pos (by omega)).trans ?_
    refine (if_pos (by omega)).trans ?_
    refine (if_pos (by omega)).trans ?_
    refine (if_pos (by omega)).trans ?_
    rw [rt_l1 s n a x8 S b hS hS3 hn h8 hb1 j k (i + 1) _ (by omega) (by simp; omega) (by simp; omega)]
    simp only [backL, rd, Int.toNat_natCast]
theorem rt_lit (l : List Int) (hb : ∀ x ∈ l, 0 ≤ x ∧ x < 256) (hll : l.length ≤ 1000000) (n a X k : Nat) (x8 : List S46) (out : List Int) (d : ByteArray) (h8 : x8.length < 4398046511104) (hx : X < 128) (h0 : l.getD a 0 = (X : Int)) (ha : a + X + 2 ≤ l.length) (hd : (l.take (a + X + 2)).drop (a + 1) = bytesOf d) (hds : d.size = X + 1) (hn : n ≤ 65536) (ho : out.length + d.size ≤ n) :
    strongroomref18_Tokens.l0 (k + 1) (strOfNums l) (n : Int) (a : Int) x8 out = strongroomref18_Tokens.l0 k (strOfNums l) (n : Int) ((a + X + 2 : Nat) : Int) (x8 ++ [⟨0, 0, d⟩]) (out ++ bytesOf d) := by
  simp only [strongroomref18_Tokens.l0]
  rw [bt_l hb a (by omega), h0, str_size]
  obtain ⟨e0, e1, e2, e3⟩ : wrap64 (X : Int) = (X : Int) ∧ wrap64 ((a : Int) + (X : Int)) = (a : Int) + (X : Int) ∧ wrap64 ((a : Int) + (X : Int) + 2) = ((a + X + 2 : Nat) : Int) ∧ wrap64 ((a : Int) + 1) = ((a + 1 : Nat) : Int) :=
    ⟨w64 (by omega) (by omega), w64 (by omega) (by omega), by rw [w64 (by omega) (by omega)]; omega, by rw [w64 (by omega) (by omega)]; omega⟩
  rw [e0, e1, e2, e3]
  clear e0 e1 e2 e3
  have e4 : (strOfNums l).extract ((a + 1 : Nat) : Int).toNat ((a + X + 2 : Nat) : Int).toNat = d := by
    rw [Int.toNat_natCast, Int.toNat_natCast, str_extract2, hd, str_bytesOfL]
  rw [e4]
  clear e4
  refine (if_pos (by omega)).trans ?_
  refine (if_pos (by omega)).trans ?_
  refine (if_pos (by omega)).trans ?_
  refine (if_neg (by omega)).trans ?_
  refine (if_pos (by omega)).trans ?_
  refine (if_pos (by omega)).trans ?_
  refine (if_pos (by omega)).trans ?_
  refine (if_pos h8).trans ?_
  refine (if_pos (by omega)).trans ?_
  rw [obs]
  have e5 : IntKind.u64.wrap (((out ++ bytesOf d).length : Nat) : Int) = ((out ++ bytesOf d).length : Int) := by rw [u64_wrap, List.length_append, bytesOf_length]; omega
  rw [e5]
  clear e5
  exact if_neg (by rw [List.length_append, bytesOf_length]; omega)
theorem rt_back (l : List Int) (hb : ∀ x ∈ l, 0 ≤ x ∧ x < 256) (hll : l.length ≤ 1000000) (n a S b k : Nat) (x8 : List S46) (out : List Int) (h8 : x8.length < 4398046511104) (hS : S ≤ 130) (hS3 : 3 ≤ S) (hb1 : 1 ≤ b) (h0 : l.getD a 0 = (S : Int) + 125) (Y Z : Nat) (h1 : l.getD (a + 1) 0 = (Y : Int)) (h2 : l.getD (a + 2) 0 = (Z : Int)) (hyz : 256 * Y + Z + 1 = b) (hY : Y < 256) (hZ : Z < 256) (ha : a + 3 ≤ l.length) (hbo : b ≤ out.length) (hn : n ≤ 65536) (ho : out.length + S ≤ n) :
    strongroomref18_Tokens.l0 (k + (S + 1) + 1) (strOfNums l) (n : Int) (a : Int) x8 out = strongroomref18_Tokens.l0 k (strOfNums l) (n : Int) ((a + 3 : Nat) : Int) (x8 ++ [⟨(b : Int), (S : Int), ⟨#[]⟩⟩]) (backL b S out) := by
  rw [strongroomref18_Tokens.l0]
  rw [bt_l hb a (by omega), h0, str_size]
  have HL1 := rt_l1 (strOfNums l) n (a : Int) x8 S b hS hS3 hn h8 hb1 S k 0 out (by omega) hbo ho
  obtain ⟨e0, e1, e2, e3⟩ : wrap64 ((S : Int) + 125) = (S : Int) + 125 ∧ wrap64 ((a : Int) + 1) = ((a + 1 : Nat) : Int) ∧ wrap64 ((a : Int) + 2) = ((a + 2 : Nat) : Int) ∧ wrap64 ((a : Int) + 3) = ((a + 3 : Nat) : Int) :=
    ⟨w64 (by omega) (by omega), by rw [w64 (by omega) (by omega)]; omega, by rw [w64 (by omega) (by omega)]; omega, by rw [w64 (by omega) (by omega)]; omega⟩
  rw [e3] at HL1
  rw [e0, e1, e2, e3]
  clear e0 e1 e2 e3
  rw [bt_l hb (a + 1) (by omega), bt_l hb (a + 2) (by omega), h1, h2]
  obtain ⟨f1, f2, f3, f4, f5⟩ : wrap64 (Y : Int) = (Y : Int) ∧ wrap64 (Z : Int) = (Z : Int) ∧ wrap64 (256 * (Y : Int)) = 256 * (Y : Int) ∧ wrap64 (256 * (Y : Int) + (Z : Int)) = 256 * (Y : Int) + (Z : Int) ∧ wrap64 (256 * (Y : Int) + (Z : Int) + 1) = (b : Int) :=
    ⟨w64 (by omega) (by omega), w64 (by omega) (by omega), w64 (by omega) (by omega), w64 (by omega) (by omega), by rw [w64 (by omega) (by omega)]; omega⟩
  rw [f1, f2, f3, f4, f5]
  clear f1 f2 f3 f4 f5
  refine (if_pos (by omega)).trans ?_
  refine (if_pos (by omega)).trans ?_
  refine (if_neg (by omega)).trans ?_
  refine (if_neg (by omega)).trans ?_
  refine (if_pos (by omega)).trans ?_
  refine (if_pos (by omega)).trans ?_
  refine (if_pos (by omega)).trans ?_
  refine (if_pos (by omega)).trans ?_
  refine (if_neg (by omega)).trans ?_
  exact HL1
theorem getD_drop (l : List Int) (a i : Nat) : (l.drop a).getD i 0 = l.getD (a + i) 0 := by simp [List.getD, List.getElem?_drop]
theorem rt_l0 (l : List Int) (L : List Tk) (n : Nat) (hl : l = layL n L) (hb : ∀ x ∈ l, 0 ≤ x ∧ x < 256) (hg : goodL 0 L) (ht : tellL L = n) (hn : n ≤ 65536) (hll : l.length ≤ 1000000) (hLl : L.length ≤ 65536) : ∀ (suf pre : List Tk) (k : Nat) (x8 : List S46), L = pre ++ suf → 2 * tellL suf < k → x8.length = pre.length →
    ∃ r1, strongroomref18_Tokens.l0 k (strOfNums l) (n : Int) (((putL n).length + (pre.flatMap tokB).length : Nat) : Int) x8 (expL pre) = some (r1, strOfNums (expL L), true)
  | [], pre, k, x8, hp, hk, h8 => by
    obtain ⟨k, rfl⟩ : ∃ k', k = k' + 1 := ⟨k - 1, by omega⟩
    rw [List.append_nil] at hp
    subst hp
    have hlen : l.length = (putL n).length + (L.flatMap tokB).length := by rw [hl]; unfold layL; rw [List.length_append]
    refine ⟨x8, ?_⟩
    rw [strongroomref18_Tokens.l0, str_size, hlen]
    refine (if_neg (by omega)).trans ?_
    have e : (IntKind.u64.wrap ((expL L).length : Int) == (n : Int)) = true := by
      rw [expL_len, ht, u64_wrap]; simp; omega
    rw [e]
  | t :: suf, pre, k, x8, hp, hk, h8 => by
    have hg' := hg
    rw [hp, goodL_app] at hg'
    obtain ⟨-, hrt, hbt, -⟩ := hg'
    rw [Nat.zero_add] at hbt
    have ht' := ht
    rw [hp, tellL_app, tellL_cons] at ht'
    rw [tellL_cons] at hk
    have hxl : (expL pre).length = tellL pre := expL_len pre
    obtain ⟨a, ha⟩ : ∃ a, a = (putL n).length + (pre.flatMap tokB).length := ⟨_, rfl⟩
    have hdr : l.drop a = tokB t ++ suf.flatMap tokB := by
      rw [hl, ha, hp]
      unfold layL
      rw [List.flatMap_append, List.flatMap_cons, ← List.append_assoc]
      rw [List.drop_left' (by rw [List.length_append])]
    have hlen : l.length = a + ((tokB t).length + (suf.flatMap tokB).length) := by
      rw [hl, ha, hp]
      unfold layL
      rw [List.flatMap_append, List.flatMap_cons]
      simp only [List.length_append]
      omega
    have hp2 : L = (pre ++ [t]) ++ suf := by rw [hp]; simp
    have h82 : x8.length < 4398046511104 := by
      have : pre.length ≤ L.length := by rw [hp, List.length_append]; omega
      omega
    have hrt2 := hrt
    unfold rightT at hrt
    have hnext : ((putL n).length + ((pre ++ [t]).flatMap tokB).length) = a + (tokB t).length := by
      rw [ha, List.flatMap_append, List.length_append]; simp; omega
    rw [← ha]
    by_cases hd : t.d.size = 0
    · rw [if_pos hd] at hrt
      simp at hrt
      have e : tokB t = [t.s + 125, (t.b - 1) / 256, (t.b - 1) % 256] := by unfold tokB; rw [if_pos hd]
      obtain ⟨S, hS⟩ : ∃ S : Nat, t.s = (S : Int) := ⟨t.s.toNat, by omega⟩
      obtain ⟨b, hbb⟩ : ∃ b : Nat, t.b = (b : Int) := ⟨t.b.toNat, by omega⟩
      have htt : tellT t = S := by unfold tellT; rw [hd, hS]; simp
      rw [hS, hbb] at hrt e
      rw [hbb] at hbt
      have h0 := getD_drop l a 0
      have h1 := getD_drop l a 1
      have h2 := getD_drop l a 2
      rw [hdr, e] at h0 h1 h2
      simp only [List.cons_append, List.getD_cons_zero, List.getD_cons_succ, Nat.add_zero] at h0 h1 h2
      rw [e] at hlen hnext
      simp only [List.length_cons, List.length_nil] at hlen hnext
      obtain ⟨j, rfl⟩ : ∃ j, k = j + (S + 1) + 1 := ⟨k - (S + 1) - 1, by omega⟩
      rw [rt_back l hb hll n a S b j x8 (expL pre) h82 (by omega) (by omega) (by omega) h0.symm ((b - 1) / 256) ((b - 1) % 256) (by rw [← h1]; omega) (by rw [← h2]; omega) (by omega) (by omega) (by omega) (by omega) (by omega) hn (by omega)]
      have hex : backL b S (expL pre) = expL (pre ++ [t]) := by
        rw [expL_snoc]
        unfold expT
        rw [hbb, hS, ba_empty hd]
        simp [bytesOf]
      rw [hex]
      have := rt_l0 l L n hl hb hg ht hn hll hLl suf (pre ++ [t]) j (x8 ++ [⟨(b : Int), (S : Int), ⟨#[]⟩⟩]) hp2 (by omega) (by rw [List.length_append, List.length_append, h8]; rfl)
      rw [hnext] at this
      exact this
    · rw [if_neg hd] at hrt
      simp only [Bool.and_eq_true, decide_eq_true_eq] at hrt
      obtain ⟨X, hX⟩ : ∃ X, t.d.size = X + 1 := ⟨t.d.size - 1, by omega⟩
      have e : tokB t = (X : Int) :: bytesOf t.d := by unfold tokB; rw [if_neg hd, hX]; congr 1; omega
      have hb0 : t.b = 0 := by omega
      have hs0 : t.s = 0 := by omega
      have htt : tellT t = t.d.size := by unfold tellT; rw [hs0]; rfl
      have h0 := getD_drop l a 0
      rw [hdr, e] at h0
      simp only [List.cons_append, List.getD_cons_zero, Nat.add_zero] at h0
      have htd : (l.take (a + X + 2)).drop (a + 1) = bytesOf t.d := by
        rw [List.drop_take, show a + X + 2 - (a + 1) = X + 1 from by omega, show a + 1 = a + 1 from rfl, ← List.drop_drop, hdr, e]
        rw [List.cons_append, List.drop_succ_cons, List.drop_zero, List.take_left' (by rw [bytesOf_length, hX])]
      rw [e] at hlen hnext
      simp only [List.length_cons, bytesOf_length] at hlen hnext
      obtain ⟨j, rfl⟩ : ∃ j, k = j + 1 := ⟨k - 1, by omega⟩
      rw [rt_lit l hb hll n a X j x8 (expL pre) t.d h82 (by omega) h0.symm (by omega) htd hX hn (by omega)]
      have hex : expL pre ++ bytesOf t.d = expL (pre ++ [t]) := by
        rw [expL_snoc]
        unfold expT
        rw [hb0, hs0]
        rfl
      rw [hex]
      have := rt_l0 l L n hl hb hg ht hn hll hLl suf (pre ++ [t]) j (x8 ++ [⟨0, 0, t.d⟩]) hp2 (by omega) (by rw [List.length_append, List.length_append, h8]; rfl)
      rw [hnext, show a + (t.d.size + 1) = a + X + 2 from by omega] at this
      exact this
theorem rget_more (s : ByteArray) (a : Int) (r : Int × Int × Int) (h : strongroomref01_Get.f 24 s a = some r) : ∀ d, strongroomref01_Get.f (24 + d) s a = some r
  | 0 => h
  | d + 1 => strongroomref01_Get.mono s a (24 + d) r (rget_more s a r h d)
theorem rtokens_c (L : List Tk) (n : Nat) (hg : goodL 0 L) (ht : tellL L = n) (hn : n ≤ 65536) (hll : (layL n L).length ≤ 1000000) (hLl : L.length ≤ 65536) (w : World) :
    Calls Try.prog 17 #[.string (strOfNums (layL n L))] w (Tells w fun _ v => ∃ v0, v = .tuple #[v0, .string (strOfNums (expL L)), .bool true]) := by
  have hb := layL_bytes (k := n) (goodL_right L 0 hg)
  have hget : getL (layL n L) 0 = ((n : Int), (((putL n).length : Nat) : Int), 0) := by
    have h := getL_put [] (L.flatMap tokB) n (by omega)
    rw [List.nil_append, show ((List.length ([] : List Int) : Nat) : Int) = 0 from rfl] at h
    unfold layL
    rw [h]; simp
  obtain ⟨r1, h1⟩ := rt_l0 (layL n L) L n rfl hb hg ht hn hll hLl L [] (2 * tellL L + 22 + 1) [] rfl (by omega) rfl
  have hf : strongroomref18_Tokens.f (2 * tellL L + 24) (strOfNums (layL n L)) = some (r1, strOfNums (expL L), true) := by
    unfold strongroomref18_Tokens.f
    have hr := rget_more (strOfNums (layL n L)) 0 _ (rget_f (strOfNums (layL n L)) (by rw [str_size]; omega) 0) (2 * tellL L)
    rw [bytesOf_str hb, hget] at hr
    rw [show 2 * tellL L + 24 = 24 + 2 * tellL L from by omega, hr, obs]
    refine (if_pos rfl).trans ?_
    have e : decide (((n : Int), (((putL n).length : Nat) : Int), (0 : Int)).1 > 65536) = false := decide_eq_false (by simp; omega)
    rw [e, show 24 + 2 * tellL L = (2 * tellL L + 22 + 1) + 1 from by omega, strongroomref18_Tokens.j0]
    refine (if_neg (by simp)).trans ?_
    simp only [List.flatMap_nil, List.length_nil, Nat.add_zero] at h1
    exact h1
  refine (strongroomref18_Tokens.calls _ _ _ _ _ w hf).mono ?_
  rintro e w' ⟨v0, rfl, -, hb'⟩
  exact ⟨_, rfl, ⟨_, rfl⟩, hb'⟩
end Go.Proofs.Ytehbebpemnanoaa.F

-- LzBack
namespace Go.Proofs.Ytehbebpemnanoaa.F
open Go Go.RowKit Go.Proofs.YtehbebpemnanoaaW.PrintWords Go.Proofs.YtehbebpemnanoaaW.PrintLast Go.Proofs.YtehbebpemnanoaaW.PrintMore Go.Proofs.YtehbebpemnanoaaM Go.Proofs.YtehbebpemnanoaaR
attribute [local go_sem] max2_int min2_int max_two min_two
set_option linter.unusedSimpArgs false
set_option linter.unusedVariables false
set_option maxRecDepth 100000
set_option maxHeartbeats 8000000 in
theorem LzBack_c (w : World) (A : Option Addr) (c : Nat) (x : List Int) (hC : Kd.C (Kd.int .u8) w A x.length x) (hc : x.length ≤ c) (hm_ : x.length ≤ maxLen) (hz_ : x.length * 1 ≤ 140737488351232) (ok_ : ∀ y ∈ x, (Lit.int .u8 y).wf = true) :
    Calls Try.prog 4 #[.slice A x.length c] w (Tells w (Is (.bool true))) := by
  have ok := bytes_of ok_
  have hz : x.length ≤ 140737488351232 := by omega
  clear ok_ hz_ hm_
  obtain ⟨n, hn⟩ : ∃ n, n = x.length := ⟨_, rfl⟩
  obtain ⟨S, hS⟩ : ∃ S, S = strOfNums x := ⟨_, rfl⟩
  have hcv := Kd.C_string (P := Try.prog) (c := c) Try.underlying25 Try.underlying5 Try.underlying9 hC
  rw [← hn, ← hS] at hcv
  rw [← hn] at hC hc hz ⊢
  by_cases hlong : 65536 < n
  · have y1 : decide ((3000 : Int) < (n : Int)) = true := decide_eq_true (by omega)
    have y2 : decide (3000 < n) = true := decide_eq_true (by omega)
    have y3 : decide ((n : Int) ≤ 65536) = false := decide_eq_false (by omega)
    have y4 : decide (n ≤ 65536) = false := decide_eq_false (by omega)
    have y5 : decide ((65536 : Int) < (n : Int)) = true := decide_eq_true (by omega)
    have y6 : decide (65536 < n) = true := decide_eq_true hlong
    have HP := Lib.hid (fun w => pack_no w A n c hlong)
    clear hn hC ok hS
    go_enter Try.func4, Try.ntmps4
    go_wp2_with fail
    refine (HP.out _).mono ?_
    rintro e w1 ⟨_, rfl, rfl, hg1⟩
    go_wp2_with fail
    refine (lives_c _).mono ?_
    rintro e w3 ⟨_, rfl, rfl, hg3⟩
    go_wp2_with fail
    go_ret
    exact ⟨_, rfl, rfl, hg1.trans hg3⟩
  · by_cases hgo : 3000 < n
    · have y1 : decide ((3000 : Int) < (n : Int)) = true := decide_eq_true (by omega)
      have y2 : decide (3000 < n) = true := decide_eq_true hgo
      have y3 : decide ((n : Int) ≤ 65536) = true := decide_eq_true (by omega)
      have y4 : decide (n ≤ 65536) = true := decide_eq_true (by omega)
      clear hn hC ok hcv hS
      go_enter Try.func4, Try.ntmps4
      go_wp2_with fail
      refine (lives_c _).mono ?_
      rintro e w3 ⟨_, rfl, rfl, hg3⟩
      go_wp2_with fail
      go_ret
      exact ⟨_, rfl, rfl, hg3⟩
    · have y1 : decide ((3000 : Int) < (n : Int)) = false := decide_eq_false (by omega)
      have y2 : decide (3000 < n) = false := decide_eq_false hgo
      have y5 : decide ((65536 : Int) < (n : Int)) = false := decide_eq_false (by omega)
      have y6 : decide (65536 < n) = false := decide_eq_false hlong
      have HP := Lib.hid (pack_c w A n c x hC hn.symm hc ok (by omega))
      have HN := Lib.hid hn
      have HC := Lib.hid hC
      have HSE := Lib.hid hS
      have hn2 : n ≤ 3000 := by omega
      clear hn hC ok hgo hlong hS hz
      go_enter Try.func4, Try.ntmps4
      go_wp2_with fail
      refine HP.out.mono ?_
      rintro e w1 ⟨v1, rfl, ⟨L, v0, hch, rfl, hown⟩, hg1⟩
      obtain ⟨hsz, htk, hexp, hlen, hby, -⟩ := pack_facts hch (by rw [← HN.out]; omega)
      obtain ⟨hch1, hgood, htell, -⟩ := hch
      rw [← HN.out] at hsz htk hlen hby hown htell
      have hLl : L.length ≤ 65536 := by have := good_len L 0 hgood; omega
      obtain ⟨l, hl⟩ : ∃ l, l = layL n L := ⟨_, rfl⟩
      have HRT := Lib.hid (fun w' => rtokens_c L n hgood htell (by omega) (by omega) hLl w')
      rw [← hl, hexp, ← HSE.out] at HRT
      rw [← hl] at hsz htk hlen hby hown
      obtain ⟨A1, c1, rfl, -, hc1, hC1⟩ := own_C hown
      obtain ⟨pl, hpl⟩ : ∃ pl, pl = l.length := ⟨_, rfl⟩
      have HU := Lib.hid (fun w' (h : Grew w1 w') => by
        have := unpack_c w' A1 c1 l (n : Int) (Kd.C_below hC1 h) hc1 (by omega) hby (by omega) (by omega)
        rw [full_unpack _ l L n (n : Int) hsz (by omega) htk, hexp] at this
        exact this)
      have HSZ := Lib.hid (fun w' (h : Grew w1 w') => by
        have := lsize_c w' A1 c1 l (Kd.C_below hC1 h) hc1 (by omega) hby
        rw [hsz] at this
        exact this)
      obtain ⟨T, hT⟩ : ∃ T, T = strOfNums l := ⟨_, rfl⟩
      have HCVP := Lib.hid (fun w' (h : Grew w1 w') => by
        have := Kd.C_string (P := Try.prog) (c := c1) Try.underlying25 Try.underlying5 Try.underlying9 (Kd.C_below hC1 h)
        rw [← hpl, ← hT] at this
        exact this)
      have HCVB := Lib.hid (fun w' (h : Grew w w') => by
        have := Kd.C_string (P := Try.prog) (c := c) Try.underlying25 Try.underlying5 Try.underlying9 (Kd.C_below HC.out h)
        rw [← HSE.out] at this
        exact this)
      rw [← hT] at HRT
      rw [← hpl] at HU HSZ hlen ⊢
      have z1 : (n : Int) / 128 = ((n / 128 : Nat) : Int) := by omega
      have z4 : decide ((pl : Int) ≤ (n : Int) + (n : Int) / 128 + 4) = true := decide_eq_true (by omega)
      have z5 : (pl : Int) ≤ (n : Int) + (n : Int) / 128 + 4 := by omega
      have e1 : (S.toList == S.toList) = true := by simp
      have hplb : pl ≤ 4000 := by omega
      clear hown hby hl hpl hC1 hsz htk hch1 hexp hlen hc1 hT hgood htell hLl z1
      go_wp2_with fail
      refine (HU.out _ (Grew.refl _)).mono ?_
      rintro e w2 ⟨v2, rfl, ⟨vx, rfl, hox⟩, hg2⟩
      have hox : w2.ownsRow w1.heap.size 5 1 vx n (nums .u8 x) := by rw [HN.out]; exact hox
      obtain ⟨Ax, cx, rfl, -, hcx, hCx⟩ := own_C hox
      have HCVX := Lib.hid (fun w' (h : Grew w2 w') => by
        have := Kd.C_string (P := Try.prog) (c := cx) Try.underlying25 Try.underlying5 Try.underlying9 (Kd.C_below hCx h)
        rw [← HSE.out] at this
        exact this)
      have hcvp := HCVP.out w2 hg2
      clear hox hCx hcx hcv
      go_wp2_with fail
      refine (HRT.out _).mono ?_
      rintro e w3 ⟨v3, rfl, ⟨v30, rfl⟩, hg3⟩
      clear hcvp
      go_wp2_with fail
      refine (HSZ.out _ (hg2.trans hg3)).mono ?_
      rintro e w4 ⟨_, rfl, rfl, hg4⟩
      have hcvx := HCVX.out w4 (hg3.trans hg4)
      have hcvb := HCVB.out w4 (hg1.trans (hg2.trans (hg3.trans hg4)))
      go_wp2_with fail
      refine (lives_c _).mono ?_
      rintro e w5 ⟨_, rfl, rfl, hg5⟩
      go_wp2_with fail
      go_ret
      exact ⟨_, rfl, rfl, hg1.trans (hg2.trans (hg3.trans (hg4.trans hg5)))⟩
end Go.Proofs.Ytehbebpemnanoaa.F

-- RowLzBack
namespace Go.Proofs.Ytehbebpemnanoaa.lzBack
open Go.ChangeShapes Go.WideShapes Go.ChangeAt Go.RowKit
open Go.ChangeMaps (open_string shut_string)
set_option linter.unusedVariables false
set_option linter.unusedSimpArgs false
theorem own : ownKnob Try.prog.godebug = none := by kernel_rfl
theorem laidOut : laidOutB Try.prog = true := by kernel_rfl
def IsRow (k : IntKind) (w : World) (a : Option Addr) (len cap : Nat) (zs : List Int) : Prop :=
  (a = none ∧ len = 0 ∧ cap = 0 ∧ zs = []) ∨
  ∃ x, a = some x ∧ len ≤ cap ∧ cap ≤ maxLen ∧ zs.length = cap ∧ (∀ i, i < zs.length → w.cell? (x.add i) = some (.int k (zs.getD i 0))) ∧ ∀ n ∈ zs, (Lit.int k n).wf = true
set_option maxRecDepth 100000 in
theorem lifted (os : Os) (started : os.Started) (H : Type) (enc : TypeId × Value → H) :
    ReturnsInHanded {} Try.checked os 4 .any (Rows.lzBackSpec.pre6 enc Try.prog Try.f4 Rows.lzBackRow.domain false) (Rows.lzBackSpec.post enc Try.prog Try.f4 false true false false) := by
  refine returnsInHanded_of_change_sized (C := Try.checked) own started (by kernel_rfl) Try.func4
    (ChangeSpec.witness6 (enc := enc) (C := Try.checked) false ⟨#[], #[.slice none 0 0], []⟩ 8 (by kernel_rfl) (by kernel_rfl) (by kernel_rfl) (by kernel_rfl)) ?_
  intro W base args ds gs before hval0 hW hcnd hsz0 _
  have hsz : (DataW.weightsEach Try.prog (Try.f4.params.toList ++ Rows.lzBackSpec.plain.varTypes Try.prog) (ds ++ gs)).all (· ≤ reachBytes) = true := hsz0
  have hval : ∀ (j : Nat) t v, Try.f4.params[j]? = some t → args[j]? = some v → Value.okWide Try.prog W .any base t v := hval0
  have hW' := hW
  obtain ⟨p, q, hA0, hV, rfl, hfz, hnd⟩ := hW
  have hA : DataW.TrodAll enc Try.prog W 0 (fun _ => true) true Try.f4.params.toList args.toList ds p := hA0
  rw [Try.params4] at hA hval hsz
  obtain ⟨v0, vs0, d0, ds0, p0, q0, hargs, rfl, rfl, h0, r0⟩ := trodAll_cons hA
  obtain ⟨rfl, rfl, rfl⟩ := trodAll_nil r0
  obtain rfl : args = #[v0] := by cases args; simp_all
  obtain ⟨rfl, rfl⟩ := trodVars_none hV
  obtain ⟨a0, len0, cap0, rfl⟩ := okWide_slice Try.underlying25 (hval 0 25 v0 rfl rfl)
  have k0 := h0
  have lt0 : ∀ x ∈ p0, x.block < W.heap.size := by obtain ⟨m, hm⟩ := k0; exact DataW.trod_lt m _ _ _ hm
  obtain ⟨z0, w0⟩ : ∃ zs, IsRow .u8 W a0 len0 cap0 zs := by
    obtain ⟨fuel, hf⟩ := h0
    rcases open_ints Try.underlying25 Try.underlying5 (by kernel_rfl) hf with ⟨hcs, _⟩ | ⟨x, l, c, zs, hcs, _, hl, hm, hz, _, hcell, hwz⟩
    · simp [Value.cells] at hcs
      obtain ⟨rfl, rfl, rfl⟩ := hcs
      exact ⟨[], .inl ⟨rfl, rfl, rfl, rfl⟩⟩
    · simp [Value.cells] at hcs
      obtain ⟨rfl, rfl, rfl⟩ := hcs
      exact ⟨zs, .inr ⟨_, rfl, hl, hm, by simpa using hz, hcell, hwz⟩⟩
  have y0 : len0 * 1 ≤ 140737488351232 := Go.Proofs.YtehbebpemnanoaaW.PrintWords.sized_ints hsz (j := 0) (t := 25) rfl rfl Try.underlying25 Try.underlying5 (by kernel_rfl) (by kernel_rfl) h0
  obtain ⟨l0, rfl, hr0, hm0, hw0, hc0⟩ := Go.Proofs.YtehbebpemnanoaaW.PrintWords.ReadsInt.ofRowC w0
  clear hA0 hval0 hsz0 hsz
  refine (Go.Proofs.YtehbebpemnanoaaR.is_tells (Go.Proofs.Ytehbebpemnanoaa.F.LzBack_c W a0 cap0 l0 (Go.Proofs.YtehbebpemnanoaaW.PrintWords.Kd.C_of_reads (d := (0 : Int)) (h1 := fun _ => rfl) hr0) hc0 hm0 y0 hw0)).mono fun e W' ⟨he, bel⟩ => ?_
  subst he
  exact ⟨_, rfl, _, _, _, [], _, [], hW', trodAll_mk1 (shut_bool Try.underlying4 _), (trodAll_cons_mk (Below.trod laidOut (by kernel_rfl) (of_decide_eq_true (by kernel_rfl)) k0 bel lt0) trodAll_mk0), rfl, bel.frame _, fun h => by cases h⟩
theorem over : Rows.lzBackRow.holds Try.pinned (OpenSpec.ofChange Rows.lzBackSpec) :=
  OpenClaim.holds_of_wide 4 Try.f4 rfl rfl rfl rfl rfl rfl rfl ⟨rfl, rfl, rfl, rfl, rfl⟩ rfl rfl rfl rfl rfl (by kernel_rfl) Try.func4 (by kernel_rfl)
    (of_decide_eq_true (by kernel_rfl)) (by unfold Func.isWrapper; first | (rw [if_pos (by decide +kernel)]; kernel_rfl) | (rw [if_neg (by decide +kernel)]; exact ⟨rfl, rfl⟩))
    (fun os started H enc _ => lifted os started H enc)
end Go.Proofs.Ytehbebpemnanoaa.lzBack
namespace Go.Proofs.Ytehbebpemnanoaa
/-- The row, under a short name, for the claim. -/
theorem lzBack_holds : Rows.LzBackSaid := lzBack.over
#print axioms lzBack_holds
end Go.Proofs.Ytehbebpemnanoaa
