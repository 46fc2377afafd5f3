/- The row of the law SignBlocks: for every input the law's call returns true, whatever memory; no condition. Out of the contract SignBlocks_c. -/
import Derived.Test.YtkapekndfnefeaaSA
import Derived.Test.YtkapekndfnefeaaSC
import Derived.Test.YtkapekndfnefeaaRows
import Derived.WalkKit
import Derived.ProofKit
import Derived.OpenShut
import Derived.ShutString
import Derived.ChangeOld
import Derived.Below
import Derived.SizedLaws
import Derived.Test.YtkapekndfnefeaaWSized

-- F13
namespace Go.Proofs.Ytkapekndfnefeaa.F
open Go.RowKit Go.Proofs.YtkapekndfnefeaaW.PrintWords Go.Proofs.YtkapekndfnefeaaW.PrintLast Go.Proofs.YtkapekndfnefeaaW.PrintMore
attribute [local go_sem] max2_int min2_int max_two min_two max_three min_three max_four min_four   -- for this text's walks alone
set_option linter.unusedVariables false
set_option linter.unusedSimpArgs false

attribute [local go_sem high] eqA25
/-! ### strongroomref10_Blocks: function 13 -/
mutual
def strongroomref10_Blocks.j0 : Nat → ByteArray → Int → Bool → Option (List ByteArray × Int)
  | 0, _, _, _ => none
  | k + 1, x0, x1, x13 => if x13 = true then (some (([] : List ByteArray), 9)) else (if (x0.size : Int) > 1024 then (some (([] : List ByteArray), 2)) else (strongroomref10_Blocks.l0 k x0 x1 ([] : List ByteArray) 0))
def strongroomref10_Blocks.l0 : Nat → ByteArray → Int → List ByteArray → Int → Option (List ByteArray × Int)
  | 0, _, _, _, _ => none
  | k + 1, x0, x1, x6, x7 => if x7 < (x0.size : Int) then (if (wrap64 ((x0.size : Int) - x7)) < x1 then (if 0 ≤ x7 then (if x7 ≤ (x0.size : Int) then (if x6.length < 8796093022208 then (strongroomref10_Blocks.l0 k x0 x1 (x6 ++ [x0.extract (x7 : Int).toNat x0.size]) (wrap64 (x7 + x1))) else (none)) else (none)) else (none)) else (if 0 ≤ x7 then (if x7 ≤ (wrap64 (x7 + x1)) then (if (wrap64 (x7 + x1)) ≤ (x0.size : Int) then (if x6.length < 8796093022208 then (strongroomref10_Blocks.l0 k x0 x1 (x6 ++ [x0.extract (x7 : Int).toNat ((wrap64 (x7 + x1)) : Int).toNat]) (wrap64 (x7 + x1))) else (none)) else (none)) else (none)) else (none))) else (some (x6, 0))
end
def strongroomref10_Blocks.f (k : Nat) (a0 : ByteArray) (a1 : Int) : Option (List ByteArray × Int) := if a1 < 1 then (strongroomref10_Blocks.j0 k a0 a1 true) else (strongroomref10_Blocks.j0 k a0 a1 (decide (a1 > 128)))
theorem strongroomref10_Blocks.mono_l : ∀ k, (∀ y0 y1 y2, LeO (strongroomref10_Blocks.j0 k y0 y1 y2) (strongroomref10_Blocks.j0 (k + 1) y0 y1 y2)) ∧ (∀ y0 y1 y2 y3, LeO (strongroomref10_Blocks.l0 k y0 y1 y2 y3) (strongroomref10_Blocks.l0 (k + 1) y0 y1 y2 y3))
  | 0 => ⟨fun _ _ _ r h => by simp [strongroomref10_Blocks.j0] at h, fun _ _ _ _ r h => by simp [strongroomref10_Blocks.l0] at h⟩
  | k + 1 => by
    obtain ⟨ih0, ih1⟩ := strongroomref10_Blocks.mono_l k
    refine ⟨?_, ?_⟩
    · intro y0 y1 y2
      unfold strongroomref10_Blocks.j0
      repeat' first
      | (with_reducible exact ih0 _ _ _)
      | (with_reducible exact ih1 _ _ _ _)
      | (with_reducible exact LeO.refl _)
      | (with_reducible exact LeO.none _)
      | (with_reducible refine LeO.ite ?_ ?_)
      | (with_reducible refine LeO.bind ?_ (fun _ => ?_))
      | exact ih0 _ _ _
      | exact ih1 _ _ _ _
      | exact LeO.none _
      | refine LeO.ite ?_ ?_
      | refine LeO.bind ?_ (fun _ => ?_)
    · intro y0 y1 y2 y3
      unfold strongroomref10_Blocks.l0
      repeat' first
      | (with_reducible exact ih0 _ _ _)
      | (with_reducible exact ih1 _ _ _ _)
      | (with_reducible exact LeO.refl _)
      | (with_reducible exact LeO.none _)
      | (with_reducible refine LeO.ite ?_ ?_)
      | (with_reducible refine LeO.bind ?_ (fun _ => ?_))
      | exact ih0 _ _ _
      | exact ih1 _ _ _ _
      | exact LeO.none _
      | refine LeO.ite ?_ ?_
      | refine LeO.bind ?_ (fun _ => ?_)
theorem strongroomref10_Blocks.mono : ∀ a0 a1 k, LeO (strongroomref10_Blocks.f k a0 a1) (strongroomref10_Blocks.f (k + 1) a0 a1) := by
  intro a0 a1 k
  obtain ⟨ih0, ih1⟩ := strongroomref10_Blocks.mono_l k
  unfold strongroomref10_Blocks.f
  repeat' first
      | (with_reducible exact ih0 _ _ _)
      | (with_reducible exact ih1 _ _ _ _)
      | (with_reducible exact LeO.refl _)
      | (with_reducible exact LeO.none _)
      | (with_reducible refine LeO.ite ?_ ?_)
      | (with_reducible refine LeO.bind ?_ (fun _ => ?_))
      | exact ih0 _ _ _
      | exact ih1 _ _ _ _
      | exact LeO.none _
      | refine LeO.ite ?_ ?_
      | refine LeO.bind ?_ (fun _ => ?_)
set_option maxHeartbeats 8000000 in
set_option maxRecDepth 100000 in
theorem strongroomref10_Blocks.calls (k : Nat) (a0 : ByteArray) (a1 : Int) (r1 : List ByteArray) (r2 : Int) (w : World) (h : strongroomref10_Blocks.f k a0 a1 = some (r1, r2)) :
    Calls Try.prog 13 #[.string a0, .int .i64 a1] w fun e w' => ∃ v0_ : Value, e = .returned (.tuple #[v0_, .int .i64 r2]) ∧ Kd.R Kd.string 9 w' w.heap.size (fun _ => True) v0_ r1 ∧ Below w.heap.size w w' := by
  have HB := Aside0.mk (Below.refl w.heap.size w)
  have H : (if a1 < 1 then (strongroomref10_Blocks.j0 k a0 a1 true) else (strongroomref10_Blocks.j0 k a0 a1 (decide (a1 > 128)))) = some (r1, r2) := h
  clear h
  have HC3 := Aside0.mk H
  clear H
  go_enter Try.func13, Try.ntmps13
  go_upto_region 1 with (fail)
  go_cut [13] (fun v13 wc => ∃ (kq : Nat) (x13_2 : Bool), v13 = .bool x13_2 ∧ Aside0 (strongroomref10_Blocks.j0 kq a0 a1 x13_2 = some (r1, r2)) ∧ Aside0 (kq ≤ k) ∧ Aside0 (Below w.heap.size w wc))
  case first =>
    have H := HC3.out
    clear HC3
    by_cases c4 : a1 < 1
    · rw [if_pos c4] at H
      have c4b0 : decide (a1 < 1) = true := decide_eq_true c4
      clear c4
      (first | rw [c4b0] | (simp only [i64_w, i32_w]; rw [c4b0]) | skip)
      have H' := Aside0.mk H
      clear H
      go_wp2
      go_meet
      case rel => exact ⟨_, (true), (by first | rfl | (simp; done) | (simp [*]; done)), H', ⟨by first | omega | exact Nat.le_refl _⟩, ⟨by repeat (first | (with_reducible first | exact HB.out | apply below_alloc | apply pw_below_drewN | apply below_drew1) | exact HB.out)⟩⟩
    · rw [if_neg c4] at H
      have c4b0 : decide (a1 < 1) = false := decide_eq_false c4
      clear c4
      (first | rw [c4b0] | (simp only [i64_w, i32_w]; rw [c4b0]) | skip)
      have H' := Aside0.mk H
      clear H
      go_wp2
      go_meet
      case rel => exact ⟨_, (decide (a1 > 128)), (by first | rfl | (simp; done) | (simp [*]; done)), H', ⟨by first | omega | exact Nat.le_refl _⟩, ⟨by repeat (first | (with_reducible first | exact HB.out | apply below_alloc | apply pw_below_drewN | apply below_drew1) | exact HB.out)⟩⟩
  case rest =>
    clear HC3
    try clear c1
    try clear p2
    try clear c4
    try clear c4b0
    obtain ⟨kq, x13_2, rfl, HA, HJ2, HB⟩ := hcut
    cases kq with
    | zero => exact absurd HA.out (by simp [strongroomref10_Blocks.j0])
    | succ kj2 =>
      have H := HA.out
      clear HA
      simp only [strongroomref10_Blocks.j0] at H
      by_cases c5 : x13_2 = true
      · subst c5
        have H1 : (some (([] : List ByteArray), 9)) = some (r1, r2) := by rw [if_pos rfl] at H; exact H
        clear H
        have H := H1
        clear H1
        simp only [Option.some.injEq, Prod.mk.injEq] at H
        obtain ⟨rfl, rfl⟩ := H
        go_wp2
        go_ret2
        exact ⟨_, by first | rfl | (simp [errW_none, errW_some] <;> rfl) | (simp [*, errW_none, errW_some] <;> rfl), by first | exact Kd.R_nil _ _ _ _ _ | exact Kd.N_nil _ _ _ _ _ | exact Kd.V_nil _ _ _ _ _ | exact Kd.Q_nil _ _ _ _ _ | exact Kd.S_nil _ _ _ _ _, by repeat (first | (with_reducible first | exact HB.out | apply below_alloc | apply pw_below_drewN | apply below_drew1) | exact HB.out)⟩
      · replace c5 := Bool.eq_false_iff.mpr c5
        subst c5
        have H1 : (if (a0.size : Int) > 1024 then (some (([] : List ByteArray), 2)) else (strongroomref10_Blocks.l0 kj2 a0 a1 ([] : List ByteArray) 0)) = some (r1, r2) := by rw [if_neg (show ¬ (false = true) by decide)] at H; exact H
        clear H
        have H := H1
        clear H1
        by_cases c6 : (a0.size : Int) > 1024
        · rw [if_pos c6] at H
          have c6b0 : decide (1024 < (a0.size : Int)) = true := decide_eq_true c6
          have c6b1 : decide (1024 < a0.size) = true := decide_eq_true (by omega)
          clear c6
          simp only [Option.some.injEq, Prod.mk.injEq] at H
          obtain ⟨rfl, rfl⟩ := H
          go_wp2
          go_ret2
          exact ⟨_, by first | rfl | (simp [errW_none, errW_some] <;> rfl) | (simp [*, errW_none, errW_some] <;> rfl), by first | exact Kd.R_nil _ _ _ _ _ | exact Kd.N_nil _ _ _ _ _ | exact Kd.V_nil _ _ _ _ _ | exact Kd.Q_nil _ _ _ _ _ | exact Kd.S_nil _ _ _ _ _, by repeat (first | (with_reducible first | exact HB.out | apply below_alloc | apply pw_below_drewN | apply below_drew1) | exact HB.out)⟩
        · rw [if_neg c6] at H
          have c6b0 : decide (1024 < (a0.size : Int)) = false := decide_eq_false c6
          have c6b1 : decide (1024 < a0.size) = false := decide_eq_false (by omega)
          clear c6
          have H' := Aside0.mk H
          clear H
          go_wp2
          go_loopg [6, 7] kj2 (fun kq v6 v7 w' => ∃ (x6_2 : List ByteArray) (x7_2 : Int), v7 = .int .i64 x7_2 ∧ Aside0 (strongroomref10_Blocks.l0 kq a0 a1 x6_2 x7_2 = some (r1, r2)) ∧ Aside0 (kq ≤ kj2) ∧ Aside0 (Kd.R Kd.string 9 w' w.heap.size (fun _ => True) v6 x6_2) ∧ Aside0 (Below w.heap.size w w'))
          case atStart => exact ⟨(([] : List ByteArray)), (0), (by first | rfl | (simp; done) | (simp [*]; done)), H', ⟨Nat.le_refl _⟩, ⟨by first | exact Kd.R_nil _ _ _ _ _ | exact Kd.N_nil _ _ _ _ _ | exact Kd.V_nil _ _ _ _ _ | exact Kd.Q_nil _ _ _ _ _ | exact Kd.S_nil _ _ _ _ _⟩, ⟨by repeat (first | (with_reducible first | exact HB.out | apply below_alloc | apply pw_below_drewN | apply below_drew1) | exact HB.out)⟩⟩
          case round =>
            clear H'
            try clear c1
            try clear p2
            try clear c4
            try clear c4b0
            try clear c5
            try clear c6
            try clear c6b0
            try clear c6b1
            try clear p2
            obtain ⟨x6_2, x7_2, rfl, HA, HK2, HO_6, HB⟩ := hrel
            cases gk with
            | zero => exact absurd HA.out (by simp [strongroomref10_Blocks.l0])
            | succ k2 =>
              have H := HA.out
              clear HA
              simp only [strongroomref10_Blocks.l0] at H
              by_cases c7 : x7_2 < (a0.size : Int)
              · rw [if_pos c7] at H
                have c7b0 : decide (x7_2 < (a0.size : Int)) = true := decide_eq_true c7
                clear c7
                by_cases c8 : (wrap64 ((a0.size : Int) - x7_2)) < a1
                · rw [if_pos c8] at H
                  have c8b0 : decide ((wrap64 ((a0.size : Int) - x7_2)) < a1) = true := decide_eq_true c8
                  clear c8
                  by_cases c9 : 0 ≤ x7_2
                  · rw [if_pos c9] at H
                    have c9b0 := eq_true c9
                    have c9b1 : decide (0 ≤ x7_2) = true := decide_eq_true c9
                    clear c9
                    by_cases c10 : x7_2 ≤ (a0.size : Int)
                    · rw [if_pos c10] at H
                      have c10b0 := eq_true c10
                      have c10b1 : decide (x7_2 ≤ (a0.size : Int)) = true := decide_eq_true c10
                      clear c10
                      by_cases c11 : x6_2.length < 8796093022208
                      · rw [if_pos c11] at H
                        have LMc11 := Aside0.mk c11
                        clear c11
                        obtain ⟨y151, hy151⟩ : ∃ y_ : List ByteArray, y_ = (x6_2 ++ [a0.extract (x7_2 : Int).toNat a0.size]) := ⟨_, rfl⟩
                        replace H : (strongroomref10_Blocks.l0 k2 a0 a1 y151 (wrap64 (x7_2 + a1))) = some (r1, r2) := by first | (rw [hy151]; with_reducible exact H) | (have H2_ := (Option.bind_some _ _).symm.trans H; rw [hy151]; with_reducible exact H2_) | (have H2_ := (Option.bind_some _ _).symm.trans H; with_reducible exact H2_) | with_reducible exact H | (rw [hy151]; exact H) | exact H
                        have Ny151 := Aside0.mk hy151
                        clear hy151
                        have H' := Aside0.mk H
                        clear H
                        go_wp2_with (first | ((with_reducible refine gate_builtin (b := .append) (xs := #[.tmp 30, .tmp 34]) rfl ?_); at_builtin; refine Kd.R_append Kd.string (w0 := w) w.heap.size rfl (.tmp 30) (.tmp 34) 28 9 (.string ⟨#[]⟩) 16 rfl Try.underlying28 info9 rfl (by decide) (by omega) u6 x6_2 (a0.extract (x7_2 : Int).toNat a0.size) [.string (a0.extract (x7_2 : Int).toNat a0.size)] (fun _ => True) (fun _ => False) rfl rfl ?aP (fun _ hk => hk.elim) ?aF ?aO ?aB ?aS ?aL ?_; (case aP => exact rfl); (case aB => exact (by repeat (first | (with_reducible first | exact HB.out | apply below_alloc | apply pw_below_drewN | apply below_drew1) | exact HB.out))); (case aF => exact (fun _ _ => trivial)); (case aO => exact (by (with_reducible repeat (first | apply Kd.R_alloc | apply Kd.R_drewN | apply Kd.R_drew)); exact HO_6.out)); (case aS => exact (below_size (by repeat (first | (with_reducible first | exact HB.out | apply below_alloc | apply pw_below_drewN | apply below_drew1) | exact HB.out)))); (case aL => have := LMc11.out; omega); intro v152 w12 ho hb hg hat; rw [← Ny151.out] at ho; have n0_ := Aside0.mk (hb); have n1_ := Aside0.mk (ho); clear HB; clear HO_6; have HB := n0_; have HO153 := n1_; clear n0_ n1_; clear ho hb hg hat))
                        go_roundg k2
                        case measure => have := HJ2.out; have := HK2.out; omega
                        case rel => exact ⟨(y151), (wrap64 (x7_2 + a1)), (by first | rfl | (simp; done) | (simp [*]; done)), H', ⟨by have := HJ2.out; have := HK2.out; omega⟩, ⟨by (with_reducible repeat (first | apply Kd.R_alloc | apply Kd.R_drewN | apply Kd.R_drew)); exact HO153.out⟩, ⟨by repeat (first | (with_reducible first | exact HB.out | apply below_alloc | apply pw_below_drewN | apply below_drew1) | exact HB.out)⟩⟩
                      · rw [if_neg c11] at H
                        exact absurd H (by simp)
                    · rw [if_neg c10] at H
                      exact absurd H (by simp)
                  · rw [if_neg c9] at H
                    exact absurd H (by simp)
                · rw [if_neg c8] at H
                  have c8b0 : decide ((wrap64 ((a0.size : Int) - x7_2)) < a1) = false := decide_eq_false c8
                  clear c8
                  by_cases c13 : 0 ≤ x7_2
                  · rw [if_pos c13] at H
                    have c13b0 := eq_true c13
                    have c13b1 : decide (0 ≤ x7_2) = true := decide_eq_true c13
                    clear c13
                    by_cases c14 : x7_2 ≤ (wrap64 (x7_2 + a1))
                    · rw [if_pos c14] at H
                      have c14b0 := eq_true c14
                      have c14b1 : decide (x7_2 ≤ (wrap64 (x7_2 + a1))) = true := decide_eq_true c14
                      by_cases c15 : (wrap64 (x7_2 + a1)) ≤ (a0.size : Int)
                      · rw [if_pos c15] at H
                        have c15b0 := eq_true c15
                        have c15b1 : decide ((wrap64 (x7_2 + a1)) ≤ (a0.size : Int)) = true := decide_eq_true c15
                        by_cases c16 : x6_2.length < 8796093022208
                        · rw [if_pos c16] at H
                          have LMc16 := Aside0.mk c16
                          clear c16
                          obtain ⟨y154, hy154⟩ : ∃ y_ : List ByteArray, y_ = (x6_2 ++ [a0.extract (x7_2 : Int).toNat ((wrap64 (x7_2 + a1)) : Int).toNat]) := ⟨_, rfl⟩
                          replace H : (strongroomref10_Blocks.l0 k2 a0 a1 y154 (wrap64 (x7_2 + a1))) = some (r1, r2) := by first | (rw [hy154]; with_reducible exact H) | (have H2_ := (Option.bind_some _ _).symm.trans H; rw [hy154]; with_reducible exact H2_) | (have H2_ := (Option.bind_some _ _).symm.trans H; with_reducible exact H2_) | with_reducible exact H | (rw [hy154]; exact H) | exact H
                          have Ny154 := Aside0.mk hy154
                          clear hy154
                          have H' := Aside0.mk H
                          clear H
                          go_wp2_with (first | ((with_reducible refine gate_builtin (b := .append) (xs := #[.tmp 36, .tmp 43]) rfl ?_); at_builtin; refine Kd.R_append Kd.string (w0 := w) w.heap.size rfl (.tmp 36) (.tmp 43) 28 9 (.string ⟨#[]⟩) 16 rfl Try.underlying28 info9 rfl (by decide) (by omega) u6 x6_2 (a0.extract (x7_2 : Int).toNat ((wrap64 (x7_2 + a1)) : Int).toNat) [.string (a0.extract (x7_2 : Int).toNat ((wrap64 (x7_2 + a1)) : Int).toNat)] (fun _ => True) (fun _ => False) rfl rfl ?aP (fun _ hk => hk.elim) ?aF ?aO ?aB ?aS ?aL ?_; (case aP => exact rfl); (case aB => exact (by repeat (first | (with_reducible first | exact HB.out | apply below_alloc | apply pw_below_drewN | apply below_drew1) | exact HB.out))); (case aF => exact (fun _ _ => trivial)); (case aO => exact (by (with_reducible repeat (first | apply Kd.R_alloc | apply Kd.R_drewN | apply Kd.R_drew)); exact HO_6.out)); (case aS => exact (below_size (by repeat (first | (with_reducible first | exact HB.out | apply below_alloc | apply pw_below_drewN | apply below_drew1) | exact HB.out)))); (case aL => have := LMc16.out; omega); intro v155 w17 ho hb hg hat; rw [← Ny154.out] at ho; have n0_ := Aside0.mk (hb); have n1_ := Aside0.mk (ho); clear HB; clear HO_6; have HB := n0_; have HO156 := n1_; clear n0_ n1_; clear ho hb hg hat))
                          go_roundg k2
                          case measure => have := HJ2.out; have := HK2.out; omega
                          case rel => exact ⟨(y154), (wrap64 (x7_2 + a1)), (by first | rfl | (simp; done) | (simp [*]; done)), H', ⟨by have := HJ2.out; have := HK2.out; omega⟩, ⟨by (with_reducible repeat (first | apply Kd.R_alloc | apply Kd.R_drewN | apply Kd.R_drew)); exact HO156.out⟩, ⟨by repeat (first | (with_reducible first | exact HB.out | apply below_alloc | apply pw_below_drewN | apply below_drew1) | exact HB.out)⟩⟩
                        · rw [if_neg c16] at H
                          exact absurd H (by simp)
                      · rw [if_neg c15] at H
                        exact absurd H (by simp)
                    · rw [if_neg c14] at H
                      exact absurd H (by simp)
                  · rw [if_neg c13] at H
                    exact absurd H (by simp)
              · rw [if_neg c7] at H
                have c7b0 : decide (x7_2 < (a0.size : Int)) = false := decide_eq_false c7
                clear c7
                simp only [Option.some.injEq, Prod.mk.injEq] at H
                obtain ⟨rfl, rfl⟩ := H
                go_wp2
                go_ret2
                exact ⟨_, by first | rfl | (simp [errW_none, errW_some] <;> rfl) | (simp [*, errW_none, errW_some] <;> rfl), by (with_reducible repeat (first | apply Kd.R_alloc | apply Kd.R_drewN | apply Kd.R_drew)); exact HO_6.out, by repeat (first | (with_reducible first | exact HB.out | apply below_alloc | apply pw_below_drewN | apply below_drew1) | exact HB.out)⟩

-- NOT PRINTED: function 4 (strongroomlaw10_SignBlocks)

-- NOT PRINTED: function 15 (sign_Signs)

-- NOT PRINTED: function 5 (strongroomlaw10_SignAll)

end Go.Proofs.Ytkapekndfnefeaa.F

-- SgnB
namespace Go.Proofs.Ytkapekndfnefeaa.F
open Go Go.RowKit Go.Proofs.YtkapekndfnefeaaW.PrintWords Go.Proofs.YtkapekndfnefeaaW.PrintLast Go.Proofs.YtkapekndfnefeaaW.PrintMore Go.Proofs.YtkapekndfnefeaaM Go.Proofs.YtkapekndfnefeaaR
attribute [local go_sem] max2_int min2_int max_two min_two
set_option linter.unusedSimpArgs false
set_option linter.unusedVariables false
set_option maxRecDepth 100000
/-- block number m -/
def blkT (t : ByteArray) (s m : Nat) : ByteArray := t.extract (min (m * s) t.size) (min (m * s + s) t.size)
def cntT (t : ByteArray) (s : Nat) : Nat := (t.size + s - 1) / s
def blksT (t : ByteArray) (s m : Nat) : List ByteArray := (List.range m).map (blkT t s)
theorem blksT_succ (t : ByteArray) (s m : Nat) : blksT t s (m + 1) = blksT t s m ++ [blkT t s m] := by
  unfold blksT; rw [List.range_succ, List.map_append]; rfl
theorem blksT_len (t : ByteArray) (s m : Nat) : (blksT t s m).length = m := by simp [blksT]
theorem cnt_lt (t : ByteArray) (s m : Nat) (hs : 0 < s) : m < cntT t s ↔ m * s < t.size := by
  unfold cntT
  rw [Nat.lt_iff_add_one_le, Nat.le_div_iff_mul_le hs, Nat.add_mul]
  omega
theorem cat_blk (t : ByteArray) (s m : Nat) : t.extract 0 (min (m * s) t.size) ++ blkT t s m = t.extract 0 (min ((m + 1) * s) t.size) := by
  unfold blkT
  rw [ByteArray.extract_append_extract, Nat.add_mul]
  congr 1
  all_goals omega
theorem sign_l0 (t : ByteArray) (s : Nat) (hs : 0 < s) (hs2 : s ≤ 128) (ht : t.size ≤ 1024) : ∀ (d m k : Nat), cntT t s - m = d → m ≤ cntT t s → d < k →
    sign_Blocks.l0 k (t.extract (min (m * s) t.size) t.size) (s : Int) (blksT t s m) = some (blksT t s (cntT t s), 0) := by
  intro d
  induction d with
  | zero =>
    intro m k hd hm hk
    obtain ⟨k, rfl⟩ : ∃ q, k = q + 1 := ⟨k - 1, by omega⟩
    have hme : m = cntT t s := by omega
    have hge : ¬ m * s < t.size := fun h => by have := (cnt_lt t s m hs).2 h; omega
    rw [sign_Blocks.l0, if_neg (by rw [ByteArray.size_extract]; omega), hme]
  | succ d ih =>
    intro m k hd hm hk
    obtain ⟨k, rfl⟩ : ∃ q, k = q + 1 := ⟨k - 1, by omega⟩
    have hlt : m * s < t.size := (cnt_lt t s m hs).1 (by omega)
    have hcl : cntT t s ≤ 2000 := by unfold cntT; exact Nat.le_trans (Nat.div_le_self _ _) (by omega)
    obtain ⟨p, hp⟩ : ∃ p, p = m * s := ⟨_, rfl⟩
    rw [← hp] at hlt
    have hsz : (t.extract (min p t.size) t.size).size = t.size - p := by rw [ByteArray.size_extract]; omega
    obtain ⟨q, hq⟩ : ∃ q, q = min s (t.size - p) := ⟨_, rfl⟩
    have hmn : mn (s : Int) ((t.size - p : Nat) : Int) = (q : Int) := by unfold mn; split <;> omega
    have e1 : (t.extract (min p t.size) t.size).extract 0 q = blkT t s m := by
      unfold blkT
      rw [← hp, ByteArray.extract_extract]
      congr 1 <;> omega
    have e2 : (t.extract (min p t.size) t.size).extract q (t.size - p) = t.extract (min ((m + 1) * s) t.size) t.size := by
      rw [ByteArray.extract_extract, Nat.add_mul, ← hp]
      congr 1 <;> omega
    rw [← hp, sign_Blocks.l0, hsz, if_pos (by omega), hmn, if_pos (by omega), if_pos (by omega), if_pos (by rw [blksT_len]; omega), Int.toNat_natCast, e1, e2, ← blksT_succ]
    exact ih (m + 1) k (by omega) (by omega) (by omega)
theorem rb_step (k : Nat) (x0 : ByteArray) (x1 : Int) (x6 : List ByteArray) (x7 : Int) : strongroomref10_Blocks.l0 (k + 1) x0 x1 x6 x7 = if x7 < (x0.size : Int) then (if (wrap64 ((x0.size : Int) - x7)) < x1 then (if 0 ≤ x7 then (if x7 ≤ (x0.size : Int) then (if x6.length < 8796093022208 then (strongroomref10_Blocks.l0 k x0 x1 (x6 ++ [x0.extract (x7 : Int).toNat x0.size]) (wrap64 (x7 + x1))) else (none)) else (none)) else (none)) else (if 0 ≤ x7 then (if x7 ≤ (wrap64 (x7 + x1)) then (if (wrap64 (x7 + x1)) ≤ (x0.size : Int) then (if x6.length < 8796093022208 then (strongroomref10_Blocks.l0 k x0 x1 (x6 ++ [x0.extract (x7 : Int).toNat ((wrap64 (x7 + x1)) : Int).toNat]) (wrap64 (x7 + x1))) else (none)) else (none)) else (none)) else (none))) else (some (x6, 0)) := by
  simp only [strongroomref10_Blocks.l0]
set_option maxHeartbeats 4000000 in
theorem rsign_l0 (t : ByteArray) (s : Nat) (hs : 0 < s) (hs2 : s ≤ 128) (ht : t.size ≤ 1024) : ∀ (d m k : Nat), cntT t s - m = d → m ≤ cntT t s → d < k →
    strongroomref10_Blocks.l0 k t (s : Int) (blksT t s m) ((m * s : Nat) : Int) = some (blksT t s (cntT t s), 0) := by
  intro d
  induction d with
  | zero =>
    intro m k hd hm hk
    obtain ⟨k, rfl⟩ : ∃ q, k = q + 1 := ⟨k - 1, by omega⟩
    have hme : m = cntT t s := by omega
    have hge : ¬ m * s < t.size := fun h => by have := (cnt_lt t s m hs).2 h; omega
    rw [rb_step, if_neg (by omega), hme]
  | succ d ih =>
    intro m k hd hm hk
    obtain ⟨k, rfl⟩ : ∃ q, k = q + 1 := ⟨k - 1, by omega⟩
    have hlt : m * s < t.size := (cnt_lt t s m hs).1 (by omega)
    have hcl : cntT t s ≤ 2000 := by unfold cntT; exact Nat.le_trans (Nat.div_le_self _ _) (by omega)
    have ih := ih (m + 1) k (by omega) (by omega) (by omega)
    rw [Nat.add_mul, Nat.one_mul, blksT_succ] at ih
    have hbk : blkT t s m = t.extract (min (m * s) t.size) (min (m * s + s) t.size) := rfl
    obtain ⟨p, hp⟩ : ∃ p, p = m * s := ⟨_, rfl⟩
    rw [← hp] at hlt ih hbk ⊢
    have w1 : wrap64 ((t.size : Int) - (p : Int)) = ((t.size - p : Nat) : Int) := by unfold wrap64; omega
    have w2 : wrap64 ((p : Int) + (s : Int)) = ((p + s : Nat) : Int) := by unfold wrap64; omega
    rw [rb_step, w1, w2]
    clear w1 w2
    rw [if_pos (by omega)]
    by_cases hc : t.size - p < s
    · rw [if_pos (by omega), if_pos (by omega), if_pos (by omega), if_pos (by rw [blksT_len]; omega), Int.toNat_natCast]
      rw [show t.extract p t.size = blkT t s m from by rw [hbk]; congr 1 <;> omega]
      exact ih
    · rw [if_neg (by omega), if_pos (by omega), if_pos (by omega), if_pos (by omega), if_pos (by rw [blksT_len]; omega), Int.toNat_natCast, Int.toNat_natCast]
      rw [show t.extract p (p + s) = blkT t s m from by rw [hbk]; congr 1 <;> omega]
      exact ih
/-- what both give -/
theorem blocks_f (t : ByteArray) (size : Int) (ht : t.size ≤ 5000) : ∃ (k : Nat) (L : List ByteArray) (e : Int), sign_Blocks.f k t size = some (L, e) ∧ strongroomref10_Blocks.f k t size = some (L, e) ∧ ((e ≠ 0 ∧ L = []) ∨ ∃ s : Nat, size = (s : Int) ∧ 0 < s ∧ s ≤ 128 ∧ t.size ≤ 1024 ∧ e = 0 ∧ L = blksT t s (cntT t s)) := by
  unfold sign_Blocks.f strongroomref10_Blocks.f
  by_cases h1 : size < 1
  · refine ⟨1, [], 9, ?_, ?_, .inl ⟨by omega, rfl⟩⟩
    · rw [if_pos h1, sign_Blocks.j0, if_pos rfl]
    · rw [if_pos h1, strongroomref10_Blocks.j0, if_pos rfl]
  · by_cases h2 : 128 < size
    · refine ⟨1, [], 9, ?_, ?_, .inl ⟨by omega, rfl⟩⟩
      · rw [if_neg h1, sign_Blocks.j0, if_pos (decide_eq_true h2)]
      · rw [if_neg h1, strongroomref10_Blocks.j0, if_pos (decide_eq_true h2)]
    · have hd : ¬ (decide (size > 128) = true) := by simp; omega
      by_cases h3 : 1024 < t.size
      · refine ⟨1, [], 2, ?_, ?_, .inl ⟨by omega, rfl⟩⟩
        · rw [if_neg h1, sign_Blocks.j0, if_neg hd, if_pos (by omega)]
        · rw [if_neg h1, strongroomref10_Blocks.j0, if_neg hd, if_pos (by omega)]
      · obtain ⟨s, rfl⟩ := Int.eq_ofNat_of_zero_le (by omega : 0 ≤ size)
        refine ⟨cntT t s + 2, _, 0, ?_, ?_, .inr ⟨s, rfl, by omega, by omega, by omega, rfl, rfl⟩⟩
        · rw [if_neg h1, sign_Blocks.j0, if_neg hd, if_neg (by omega)]
          have h := sign_l0 t s (by omega) (by omega) (by omega) (cntT t s) 0 (cntT t s + 1) (by omega) (by omega) (by omega)
          rw [Nat.zero_mul, Nat.zero_min, ByteArray.extract_zero_size] at h
          exact h
        · rw [if_neg h1, strongroomref10_Blocks.j0, if_neg hd, if_neg (by omega)]
          have h := rsign_l0 t s (by omega) (by omega) (by omega) (cntT t s) 0 (cntT t s + 1) (by omega) (by omega) (by omega)
          rw [Nat.zero_mul] at h
          exact h
theorem same_l0 (ss : List ByteArray) (hn : ss.length ≤ 9223372036854775807) : ∀ (suf pre : List ByteArray) (k : Nat), ss = pre ++ suf → suf.length + 1 ≤ k → strongroomref10_Same.l0 k ss ss (pre.length : Int) = some true := by
  intro suf
  induction suf with
  | nil =>
    intro pre k hp hk
    obtain ⟨k, rfl⟩ : ∃ m, k = m + 1 := ⟨k - 1, by omega⟩
    have : ss.length = pre.length := by rw [hp]; simp
    simp only [strongroomref10_Same.l0]
    rw [if_neg (by omega)]
  | cons s suf ih =>
    intro pre k hp hk
    obtain ⟨k, rfl⟩ : ∃ m, k = m + 1 := ⟨k - 1, by omega⟩
    have hlen : ss.length = pre.length + suf.length + 1 := by rw [hp]; simp; omega
    rw [List.length_cons] at hk
    simp only [strongroomref10_Same.l0]
    rw [if_pos (show (pre.length : Int) < (ss.length : Int) from by omega), if_pos (show (0 : Int) ≤ (pre.length : Int) from by omega), if_pos (show (pre.length : Int) < (ss.length : Int) from by omega), if_pos trivial, show wrap64 ((pre.length : Int) + 1) = (pre.length : Int) + 1 from by unfold wrap64; omega]
    have := ih (pre ++ [s]) k (by rw [hp]; simp) (by omega)
    rwa [show ((pre ++ [s]).length : Int) = (pre.length : Int) + 1 from by simp] at this
theorem same_f (ss : List ByteArray) (hn : ss.length ≤ 9223372036854775807) : strongroomref10_Same.f (ss.length + 1) ss ss = some true := by
  unfold strongroomref10_Same.f
  rw [if_pos rfl]
  exact same_l0 ss hn ss [] _ rfl (by omega)
end Go.Proofs.Ytkapekndfnefeaa.F

-- SignBlocks
namespace Go.Proofs.Ytkapekndfnefeaa.F
open Go Go.RowKit Go.Proofs.YtkapekndfnefeaaW.PrintWords Go.Proofs.YtkapekndfnefeaaW.PrintLast Go.Proofs.YtkapekndfnefeaaW.PrintMore Go.Proofs.YtkapekndfnefeaaM Go.Proofs.YtkapekndfnefeaaR
attribute [local go_sem] max2_int min2_int max_two min_two
set_option linter.unusedSimpArgs false
set_option linter.unusedVariables false
set_option maxRecDepth 100000
theorem strs_cell {w : World} {A : Option Addr} {n : Nat} {ss : List ByteArray} (h : Kd.C Kd.string w A n ss) (i : Nat) (hi : i < n) : ∃ ad, A = some ad ∧ w.cell? (ad.add i) = some (.string (ss.getD i ByteArray.empty)) := by
  obtain ⟨ad, hA, hc⟩ := (Kd.reads_of_C (enc := Value.string) (d := ByteArray.empty) (h1 := fun _ => rfl) h).at_ (i : Int) (by omega) (by omega)
  exact ⟨ad, hA, by simpa [rdOf] using hc⟩
theorem blksT_at (t : ByteArray) (s n m : Nat) (h : m < n) : (blksT t s n).getD m ByteArray.empty = blkT t s m := by
  unfold blksT
  simp [List.getD, List.getElem?_map, List.getElem?_range h]
theorem blkT_size (t : ByteArray) (s m : Nat) : (blkT t s m).size ≤ t.size := by
  unfold blkT; rw [ByteArray.size_extract]; omega
set_option maxHeartbeats 2000000 in
theorem SignBlocks_c (w : World) (t : ByteArray) (size : Int) (ht : t.size ≤ 140737488351232) (hs : (Lit.int .i64 size).wf = true) :
    Calls Try.prog 4 #[.string t, .int .i64 size] w (Tells w (Is (.bool true))) := by
  clear hs
  by_cases h : 5000 < t.size
  · have h1 : decide (5000 < t.size) = true := decide_eq_true h
    have h2 : decide (5000 < (t.size : Int)) = true := decide_eq_true (by omega)
    clear ht
    go_enter Try.func4, Try.ntmps4
    go_wp2_with fail
    refine (lives_c _).mono ?_
    rintro e w' ⟨_, rfl, rfl, hg⟩
    go_wp2
    go_ret
    exact ⟨_, rfl, rfl, hg⟩
  · have d1 : decide (5000 < t.size) = false := decide_eq_false h
    have d1' : decide (5000 < (t.size : Int)) = false := decide_eq_false (by omega)
    obtain ⟨k, L, e, hf1, hf2, hcase⟩ := blocks_f t size (by omega)
    have H1 := Lib.hid (fun w => sign_Blocks.calls k t size _ _ w hf1)
    have H2 := Lib.hid (fun w => strongroomref10_Blocks.calls k t size _ _ w hf2)
    have hLn : L.length ≤ 9223372036854775807 := by
      rcases hcase with ⟨-, hL⟩ | ⟨s, -, h0, h128, h3, -, hL⟩
      · rw [hL]; simp
      · rw [hL, blksT_len]
        unfold cntT
        have := Nat.div_le_self (t.size + s - 1) s
        omega
    have H3 := Lib.hid (same_f L hLn)
    have HLn := Lib.hid hLn
    obtain ⟨n, hn⟩ : ∃ n, n = L.length := ⟨_, rfl⟩
    have hn' := hn.symm
    obtain ⟨g, hg0, hgn, hgs⟩ : (∃ g : Nat → ByteArray, g 0 = ByteArray.empty ∧ (e = 0 → g n = t) ∧ (∀ m, m < n → g m ++ L.getD m ByteArray.empty = g (m + 1) ∧ (g m).size ≤ 5000 ∧ (L.getD m ByteArray.empty).size ≤ 5000)) 
      := by
      rcases hcase with ⟨he, hL⟩ | ⟨s, -, h0, -, h3, he, hL⟩
      · refine ⟨fun _ => ByteArray.empty, rfl, fun h => absurd h he, fun m hm => ?_⟩
        rw [hn, hL] at hm
        exact absurd hm (by simp)
      · have hnn : n = cntT t s := by rw [hn, hL, blksT_len]
        refine ⟨fun m => t.extract 0 (min (m * s) t.size), ?_, fun _ => ?_, fun m hm => ⟨?_, ?_, ?_⟩⟩
        · show t.extract 0 (min (0 * s) t.size) = _
          rw [Nat.zero_mul, Nat.zero_min]; simp
        · show t.extract 0 (min (n * s) t.size) = _
          have : ¬ n * s < t.size := fun h => by have := (cnt_lt t s n h0).2 h; omega
          rw [Nat.min_eq_right (by omega), ByteArray.extract_zero_size]
        · show t.extract 0 (min (m * s) t.size) ++ L.getD m ByteArray.empty = t.extract 0 (min ((m + 1) * s) t.size)
          rw [hL, blksT_at _ _ _ _ (by omega), cat_blk]
        · show (t.extract 0 (min (m * s) t.size)).size ≤ 5000
          rw [ByteArray.size_extract]; omega
        · rw [hL, blksT_at _ _ _ _ (by omega)]
          have := blkT_size t s m
          omega
    clear hcase hf1 hf2 hLn hn ht
    have HG := Lib.hid (And.intro hg0 (And.intro hgn hgs))
    have HN := Lib.hid hn'
    clear hg0 hgn hgs hn'
    go_enter Try.func4, Try.ntmps4
    go_wp2_with fail
    refine (H1.out _).mono ?_
    rintro e1 w1 ⟨v1, rfl, hR1, hg1⟩
    obtain ⟨A1, c1, hv1, hc1, hC1⟩ := Kd.R_reads hR1
    rw [HN.out] at hC1 hc1 hv1
    subst hv1
    have HC1 := Lib.hid hC1
    have Hc1 := Lib.hid hc1
    clear hR1 hC1 hc1
    go_wp2_with fail
    refine (H2.out _).mono ?_
    rintro e1 w2 ⟨v1, rfl, hR1, hg2⟩
    obtain ⟨A2, c2, hv2, hc2, hC2⟩ := Kd.R_reads hR1
    rw [HN.out] at hC2 hc2 hv2
    subst hv2
    clear hR1
    have h4 := strongroomref10_Same.calls (L.length + 1) A1 c1 _ A2 c2 _ _ _ (by rw [HN.out]; exact Kd.C_below HC1.out hg2) (by rw [HN.out]; exact Hc1.out) (by rw [HN.out]; exact hC2) (by rw [HN.out]; exact hc2) H3.out
    rw [HN.out] at h4
    have H4 := Lib.hid h4
    clear hC2 hc2 h4
    go_wp2_with fail
    refine H4.out.mono ?_
    rintro e1 w3 ⟨rfl, hdr⟩
    have hg3 := drawn_below hdr
    clear hdr
    go_wp2_with fail
    go_loopw [9, 10] (fun sv iv wr => ∃ m : Nat, m ≤ n ∧ iv = .int .i64 (m : Int) ∧ sv = .string (g m) ∧ Grew w3 wr) (fun _ iv _ => n - (intOf iv).toNat)
    case atStart => exact ⟨0, Nat.zero_le _, rfl, by rw [HG.out.1]; rfl, Grew.refl _⟩
    case round =>
      obtain ⟨m, hm, rfl, rfl, hgr⟩ := hrel
      by_cases hlt : m < n
      · have e1 : decide ((m : Int) < (n : Int)) = true := decide_eq_true (by omega)
        have e1' : decide (m < n) = true := decide_eq_true hlt
        obtain ⟨ad, rfl, hcell⟩ := strs_cell (Kd.C_below HC1.out (Grew.trans (Grew.trans hg2 hg3) hgr)) m hlt
        obtain ⟨hgm, hz1, hz2⟩ := HG.out.2.2 m hlt
        have hz : ¬ 9223372036854775807 < (g m).size + (L.getD m ByteArray.empty).size := by omega
        obtain ⟨b, hb⟩ : ∃ b, b = L.getD m ByteArray.empty := ⟨_, rfl⟩
        rw [← hb] at hcell hgm hz hz2
        clear hb hz1 hz2 hm
        have hw : IntKind.i64.wrap ((m : Int) + 1) = ((m + 1 : Nat) : Int) := by
          have := HLn.out; have := HN.out
          rw [IntWalk.i64_in _ (by omega)]; omega
        go_wp2_with fail
        go_roundw
        case rel => exact ⟨m + 1, by omega, by simp, rfl, hgr⟩
        case measure => simp [intOf]; omega
      · have e1 : decide ((m : Int) < (n : Int)) = false := decide_eq_false (by omega)
        have e1' : decide (m < n) = false := decide_eq_false hlt
        have hmn : m = n := by omega
        by_cases he : e = 0
        · have hgt : g m = t := by rw [hmn]; exact HG.out.2.1 he
          rw [hgt]
          subst he
          clear hmn hm hgt
          go_wp2_with fail
          refine (lives_c _).mono ?_
          rintro e w4 ⟨_, rfl, rfl, hg4⟩
          go_wp2
          go_ret
          exact ⟨_, rfl, rfl, Grew.trans hg1 (Grew.trans hg2 (Grew.trans hg3 (Grew.trans hgr hg4)))⟩
        · have d3 : decide (e = 0) = false := decide_eq_false he
          clear hmn hm
          go_wp2_with fail
          refine (lives_c _).mono ?_
          rintro e w4 ⟨_, rfl, rfl, hg4⟩
          go_wp2
          go_ret
          exact ⟨_, rfl, rfl, Grew.trans hg1 (Grew.trans hg2 (Grew.trans hg3 (Grew.trans hgr hg4)))⟩
end Go.Proofs.Ytkapekndfnefeaa.F

-- RowSignBlocks
namespace Go.Proofs.Ytkapekndfnefeaa.signBlocks
open Go.ChangeShapes Go.WideShapes Go.ChangeAt Go.RowKit
open Go.ChangeMaps (open_string shut_string)
set_option linter.unusedVariables false
set_option linter.unusedSimpArgs false
theorem own : ownKnob Try.prog.godebug = none := by kernel_rfl
theorem laidOut : laidOutB Try.prog = true := by kernel_rfl
set_option maxRecDepth 100000 in
theorem lifted (os : Os) (started : os.Started) (H : Type) (enc : TypeId × Value → H) :
    ReturnsInHanded {} Try.checked os 4 .any (Rows.signBlocksSpec.pre6 enc Try.prog Try.f4 Rows.signBlocksRow.domain false) (Rows.signBlocksSpec.post enc Try.prog Try.f4 false true false false) := by
  refine returnsInHanded_of_change_sized (C := Try.checked) own started (by kernel_rfl) Try.func4
    (ChangeSpec.witness6 (enc := enc) (C := Try.checked) false ⟨#[], #[.string ByteArray.empty, .int .i64 0], []⟩ 8 (by kernel_rfl) (by kernel_rfl) (by kernel_rfl) (by kernel_rfl)) ?_
  intro W base args ds gs before hval0 hW hcnd hsz0 _
  have hsz : (DataW.weightsEach Try.prog (Try.f4.params.toList ++ Rows.signBlocksSpec.plain.varTypes Try.prog) (ds ++ gs)).all (· ≤ reachBytes) = true := hsz0
  have hval : ∀ (j : Nat) t v, Try.f4.params[j]? = some t → args[j]? = some v → Value.okWide Try.prog W .any base t v := hval0
  have hW' := hW
  obtain ⟨p, q, hA0, hV, rfl, hfz, hnd⟩ := hW
  have hA : DataW.TrodAll enc Try.prog W 0 (fun _ => true) true Try.f4.params.toList args.toList ds p := hA0
  rw [Try.params4] at hA hval hsz
  obtain ⟨v0, vs0, d0, ds0, p0, q0, hargs, rfl, rfl, h0, r0⟩ := trodAll_cons hA
  obtain ⟨v1, vs1, d1, ds1, p1, q1, rfl, rfl, rfl, h1, r1⟩ := trodAll_cons r0
  obtain ⟨rfl, rfl, rfl⟩ := trodAll_nil r1
  obtain rfl : args = #[v0, v1] := by cases args; simp_all
  obtain ⟨rfl, rfl⟩ := trodVars_none hV
  obtain ⟨a0, rfl, rfl, rfl, y0⟩ := open_string Try.underlying9 (hval 0 9 v0 rfl rfl) h0
  have w0 : a0.size ≤ 140737488351232 := by
    have z := sized_string hsz (j := 0) (t := 9) rfl rfl
    rw [Array.length_toList] at z
    exact z
  obtain ⟨a1, rfl, rfl, rfl, w1⟩ := open_int Try.underlying3 (hval 1 3 v1 rfl rfl) h1
  clear hA0 hval0 hsz0 hsz
  refine (Go.Proofs.YtkapekndfnefeaaR.is_tells (Go.Proofs.Ytkapekndfnefeaa.F.SignBlocks_c W a0 a1 w0 w1)).mono fun e W' ⟨he, bel⟩ => ?_
  subst he
  exact ⟨_, rfl, _, _, _, [], _, [], hW', trodAll_mk1 (shut_bool Try.underlying4 _), (trodAll_cons_mk (shut_string Try.underlying9 y0) (trodAll_cons_mk (shut_int Try.underlying3 w1) trodAll_mk0)), rfl, bel.frame _, fun h => by cases h⟩
theorem over : Rows.signBlocksRow.holds Try.pinned (OpenSpec.ofChange Rows.signBlocksSpec) :=
  OpenClaim.holds_of_wide 4 Try.f4 rfl rfl rfl rfl rfl rfl rfl ⟨rfl, rfl, rfl, rfl, rfl⟩ rfl rfl rfl rfl rfl (by kernel_rfl) Try.func4 (by kernel_rfl)
    (of_decide_eq_true (by kernel_rfl)) (by unfold Func.isWrapper; first | (rw [if_pos (by decide +kernel)]; kernel_rfl) | (rw [if_neg (by decide +kernel)]; exact ⟨rfl, rfl⟩))
    (fun os started H enc _ => lifted os started H enc)
end Go.Proofs.Ytkapekndfnefeaa.signBlocks
namespace Go.Proofs.Ytkapekndfnefeaa
/-- The row, under a short name, for the claim. -/
theorem signBlocks_holds : Rows.SignBlocksSaid := signBlocks.over
#print axioms signBlocks_holds
end Go.Proofs.Ytkapekndfnefeaa
