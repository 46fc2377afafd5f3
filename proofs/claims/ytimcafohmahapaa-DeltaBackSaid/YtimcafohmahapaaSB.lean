/- Texts of this seat laid together: F52, F64, F58, ShaQ, Arr, ShaK, ShaX, ShaN, F55, F59, ShaD, ShaH, ShaW, ShaU, ShaV. -/
import Derived.Test.YtimcafohmahapaaSA
import Derived.Laws.Rows
import Derived.Laws.Tables
import Derived.Deep.MidRow
import Derived.ArgAppend

-- F52
namespace Go.Proofs.Ytimcafohmahapaa.F
open Go.RowKit Go.Proofs.YtimcafohmahapaaW.PrintWords Go.Proofs.YtimcafohmahapaaW.PrintLast Go.Proofs.YtimcafohmahapaaW.PrintMore
attribute [local go_sem] max2_int min2_int max_two min_two max_three min_three max_four min_four   -- for this text's walks alone
set_option linter.unusedVariables false
set_option linter.unusedSimpArgs false

/-! ### sha_Prime: function 52 -/
mutual
def sha_Prime.j0 : Nat → Int → Bool → Option (Int)
  | 0, _, _ => none
  | k + 1, x0, x12 => if x12 = true then (some 0) else (sha_Prime.l0 k x0 2 0)
def sha_Prime.l0 : Nat → Int → Int → Int → Option (Int)
  | 0, _, _, _ => none
  | k + 1, x0, x3, x4 => sha_Prime.l1 k x0 x3 x4 true 2
def sha_Prime.l1 : Nat → Int → Int → Int → Bool → Int → Option (Int)
  | 0, _, _, _, _, _ => none
  | k + 1, x0, x3, x4, x5, x6 => if ((x6 * x6) % 4294967296) ≤ x3 then (if x5 = true then (if x6 = 0 then (none) else (sha_Prime.l1 k x0 x3 x4 ((Int.tmod x3 x6) != 0) ((x6 + 1) % 4294967296))) else (sha_Prime.l1 k x0 x3 x4 false ((x6 + 1) % 4294967296))) else (if x5 = true then (if x4 = x0 then (some x3) else (sha_Prime.l0 k x0 ((x3 + 1) % 4294967296) (wrap64 (x4 + 1)))) else (sha_Prime.l0 k x0 ((x3 + 1) % 4294967296) x4))
end
def sha_Prime.f (k : Nat) (a0 : Int) : Option (Int) := if a0 < 0 then (sha_Prime.j0 k a0 true) else (sha_Prime.j0 k a0 (decide (a0 > 99)))
set_option maxHeartbeats 8000000 in
set_option maxRecDepth 100000 in
theorem sha_Prime.calls (k : Nat) (a0 : Int) (r : Int) (w : World) (h : sha_Prime.f k a0 = some r) :
    Calls Try.prog 52 #[.int .i64 a0] w fun e w' => e = .returned (.int .u32 r) ∧ Drawn0 w w' := by
  have H : (if a0 < 0 then (sha_Prime.j0 k a0 true) else (sha_Prime.j0 k a0 (decide (a0 > 99)))) = some r := h
  clear h
  have HC2 := Aside0.mk H
  clear H
  go_enter Try.func52, Try.ntmps52
  go_upto_region 1 with (fail)
  go_cut [12] (fun v12 wc => ∃ (kq : Nat) (x12_1 : Bool), v12 = .bool x12_1 ∧ Aside0 (sha_Prime.j0 kq a0 x12_1 = some r) ∧ Aside0 (kq ≤ k) ∧ Drawn0 w wc)
  case first =>
    have H := HC2.out
    clear HC2
    by_cases c3 : a0 < 0
    · rw [if_pos c3] at H
      have c3b0 : decide (a0 < 0) = true := decide_eq_true c3
      clear c3
      (first | rw [c3b0] | (simp only [i64_w, i32_w]; rw [c3b0]) | skip)
      have H' := Aside0.mk H
      clear H
      go_wp2
      go_meet
      case rel => exact ⟨_, (true), (by first | rfl | (simp; done) | (simp [*]; done)), H', ⟨by first | omega | exact Nat.le_refl _⟩, by repeat (first | exact Drawn0.refl _ | apply Drawn0.step)⟩
    · rw [if_neg c3] at H
      have c3b0 : decide (a0 < 0) = false := decide_eq_false c3
      clear c3
      (first | rw [c3b0] | (simp only [i64_w, i32_w]; rw [c3b0]) | skip)
      have H' := Aside0.mk H
      clear H
      go_wp2
      go_meet
      case rel => exact ⟨_, (decide (a0 > 99)), (by first | rfl | (simp; done) | (simp [*]; done)), H', ⟨by first | omega | exact Nat.le_refl _⟩, by repeat (first | exact Drawn0.refl _ | apply Drawn0.step)⟩
  case rest =>
    clear HC2
    try clear p2
    try clear c3
    try clear c3b0
    obtain ⟨kq, x12_1, rfl, HA, HJ1, ⟨mc1, rfl⟩⟩ := hcut
    cases kq with
    | zero => exact absurd HA.out (by simp [sha_Prime.j0])
    | succ kj1 =>
      have H := HA.out
      clear HA
      simp only [sha_Prime.j0] at H
      by_cases c4 : x12_1 = true
      · subst c4
        have H1 : (some 0) = some r := by rw [if_pos rfl] at H; exact H
        clear H
        have H := H1
        clear H1
        obtain rfl := Option.some.inj H
        go_wp2
        go_ret
        exact ⟨by first | rfl | (simp; done) | (simp [*]; done), by repeat (first | exact Drawn0.refl _ | apply Drawn0.step)⟩
      · replace c4 := Bool.eq_false_iff.mpr c4
        subst c4
        have H1 : (sha_Prime.l0 kj1 a0 2 0) = some r := by rw [if_neg (show ¬ (false = true) by decide)] at H; exact H
        clear H
        have H := H1
        clear H1
        have H' := Aside0.mk H
        clear H
        go_wp2
        go_loopg [3, 4] kj1 (fun kq v3 v4 w' => ∃ (x3_2 : Int) (x4_2 : Int), v3 = .int .u32 x3_2 ∧ v4 = .int .i64 x4_2 ∧ Aside0 (sha_Prime.l0 kq a0 x3_2 x4_2 = some r) ∧ Aside0 (kq ≤ kj1) ∧ Drawn0 w w')
        case atStart => exact ⟨(2), (0), (by first | rfl | (simp; done) | (simp [*]; done)), (by first | rfl | (simp; done) | (simp [*]; done)), H', ⟨Nat.le_refl _⟩, by repeat (first | exact Drawn0.refl _ | apply Drawn0.step)⟩
        case round =>
          clear H'
          try clear c1
          try clear p2
          try clear c3
          try clear c3b0
          try clear c4
          try clear p2
          obtain ⟨x3_2, x4_2, rfl, rfl, HA, HK2, ⟨m2, rfl⟩⟩ := hrel
          cases gk with
          | zero => exact absurd HA.out (by simp [sha_Prime.l0])
          | succ k2 =>
            have H := HA.out
            clear HA
            simp only [sha_Prime.l0] at H
            have H' := Aside0.mk H
            clear H
            go_wp2
            go_loopg [5, 6] k2 (fun kq v5 v6 w' => ∃ (x5_3 : Bool) (x6_3 : Int), v5 = .bool x5_3 ∧ v6 = .int .u32 x6_3 ∧ Aside0 (sha_Prime.l1 kq a0 x3_2 x4_2 x5_3 x6_3 = some r) ∧ Aside0 (kq ≤ k2) ∧ Drawn0 w w')
            case atStart => exact ⟨(true), (2), (by first | rfl | (simp; done) | (simp [*]; done)), (by first | rfl | (simp; done) | (simp [*]; done)), H', ⟨Nat.le_refl _⟩, by repeat (first | exact Drawn0.refl _ | apply Drawn0.step)⟩
            case round =>
              clear H'
              try clear c1
              try clear p2
              try clear c3
              try clear c3b0
              try clear c4
              try clear p2
              obtain ⟨x5_3, x6_3, rfl, rfl, HA, HK3, ⟨m3, rfl⟩⟩ := hrel
              cases gk with
              | zero => exact absurd HA.out (by simp [sha_Prime.l1])
              | succ k3 =>
                have H := HA.out
                clear HA
                simp only [sha_Prime.l1] at H
                by_cases c5 : ((x6_3 * x6_3) % 4294967296) ≤ x3_2
                · rw [if_pos c5] at H
                  have c5b0 : decide (((x6_3 * x6_3) % 4294967296) ≤ x3_2) = true := decide_eq_true c5
                  clear c5
                  by_cases c6 : x5_3 = true
                  · subst c6
                    have H1 : (if x6_3 = 0 then (none) else (sha_Prime.l1 k3 a0 x3_2 x4_2 ((Int.tmod x3_2 x6_3) != 0) ((x6_3 + 1) % 4294967296))) = some r := by rw [if_pos rfl] at H; exact H
                    clear H
                    have H := H1
                    clear H1
                    by_cases c7 : x6_3 = 0
                    · rw [if_pos c7] at H
                      exact absurd H (by simp)
                    · rw [if_neg c7] at H
                      have c7b0 : (x6_3 == 0) = false := beq_eq_false_iff_ne.mpr c7
                      have c7b1 : (x6_3 != 0) = true := bne_iff_ne.mpr c7
                      have H' := Aside0.mk H
                      clear H
                      go_wp2
                      go_roundg k3
                      case measure => have := HJ1.out; have := HK2.out; have := HK3.out; omega
                      case rel => exact ⟨(((Int.tmod x3_2 x6_3) != 0)), ((x6_3 + 1) % 4294967296), (by first | rfl | (simp; done) | (simp [*]; done)), (by first | rfl | (simp; done) | (simp [*]; done)), H', ⟨by have := HJ1.out; have := HK2.out; have := HK3.out; omega⟩, by repeat (first | exact Drawn0.refl _ | apply Drawn0.step)⟩
                  · replace c6 := Bool.eq_false_iff.mpr c6
                    subst c6
                    have H1 : (sha_Prime.l1 k3 a0 x3_2 x4_2 false ((x6_3 + 1) % 4294967296)) = some r := by rw [if_neg (show ¬ (false = true) by decide)] at H; exact H
                    clear H
                    have H := H1
                    clear H1
                    have H' := Aside0.mk H
                    clear H
                    go_wp2
                    go_roundg k3
                    case measure => have := HJ1.out; have := HK2.out; have := HK3.out; omega
                    case rel => exact ⟨(false), ((x6_3 + 1) % 4294967296), (by first | rfl | (simp; done) | (simp [*]; done)), (by first | rfl | (simp; done) | (simp [*]; done)), H', ⟨by have := HJ1.out; have := HK2.out; have := HK3.out; omega⟩, by repeat (first | exact Drawn0.refl _ | apply Drawn0.step)⟩
                · rw [if_neg c5] at H
                  have c5b0 : decide (((x6_3 * x6_3) % 4294967296) ≤ x3_2) = false := decide_eq_false c5
                  clear c5
                  by_cases c8 : x5_3 = true
                  · subst c8
                    have H1 : (if x4_2 = a0 then (some x3_2) else (sha_Prime.l0 k3 a0 ((x3_2 + 1) % 4294967296) (wrap64 (x4_2 + 1)))) = some r := by rw [if_pos rfl] at H; exact H
                    clear H
                    have H := H1
                    clear H1
                    by_cases c9 : x4_2 = a0
                    · rw [if_pos c9] at H
                      have c9b0 : (x4_2 == a0) = true := beq_iff_eq.mpr c9
                      have c9b1 : (x4_2 != a0) = false := bne_eq_false_iff_eq.mpr c9
                      clear c9
                      obtain rfl := Option.some.inj H
                      go_wp2
                      go_ret
                      exact ⟨by first | rfl | (simp; done) | (simp [*]; done), by repeat (first | exact Drawn0.refl _ | apply Drawn0.step)⟩
                    · rw [if_neg c9] at H
                      have c9b0 : (x4_2 == a0) = false := beq_eq_false_iff_ne.mpr c9
                      have c9b1 : (x4_2 != a0) = true := bne_iff_ne.mpr c9
                      have H' := Aside0.mk H
                      clear H
                      go_wp2
                      go_roundg k3
                      case measure => have := HJ1.out; have := HK2.out; have := HK3.out; omega
                      case rel => exact ⟨((x3_2 + 1) % 4294967296), (wrap64 (x4_2 + 1)), (by first | rfl | (simp; done) | (simp [*]; done)), (by first | rfl | (simp; done) | (simp [*]; done)), H', ⟨by have := HJ1.out; have := HK2.out; have := HK3.out; omega⟩, by repeat (first | exact Drawn0.refl _ | apply Drawn0.step)⟩
                  · replace c8 := Bool.eq_false_iff.mpr c8
                    subst c8
                    have H1 : (sha_Prime.l0 k3 a0 ((x3_2 + 1) % 4294967296) x4_2) = some r := by rw [if_neg (show ¬ (false = true) by decide)] at H; exact H
                    clear H
                    have H := H1
                    clear H1
                    have H' := Aside0.mk H
                    clear H
                    go_wp2
                    go_roundg k3
                    case measure => have := HJ1.out; have := HK2.out; have := HK3.out; omega
                    case rel => exact ⟨((x3_2 + 1) % 4294967296), (x4_2), (by first | rfl | (simp; done) | (simp [*]; done)), (by first | rfl | (simp; done) | (simp [*]; done)), H', ⟨by have := HJ1.out; have := HK2.out; have := HK3.out; omega⟩, by repeat (first | exact Drawn0.refl _ | apply Drawn0.step)⟩

-- NOT PRINTED: function 44 (sha_New)

end Go.Proofs.Ytimcafohmahapaa.F

-- F64
namespace Go.Proofs.Ytimcafohmahapaa.F
open Go.RowKit Go.Proofs.YtimcafohmahapaaW.PrintWords Go.Proofs.YtimcafohmahapaaW.PrintLast Go.Proofs.YtimcafohmahapaaW.PrintMore
attribute [local go_sem] max2_int min2_int max_two min_two max_three min_three max_four min_four   -- for this text's walks alone
set_option linter.unusedVariables false
set_option linter.unusedSimpArgs false

/-! ### strongroomref02_whole: function 64 -/
def strongroomref02_whole.l0 : Nat → Int → Int → Option (Bool)
  | 0, _, _ => none
  | k + 1, x0, x3 => if x3 < x0 then (if x3 = 0 then (none) else (if (Int.tmod x0 x3) = 0 then (some false) else (strongroomref02_whole.l0 k x0 ((x3 + 1) % 4294967296)))) else (some true)
def strongroomref02_whole.f (k : Nat) (a0 : Int) : Option (Bool) := strongroomref02_whole.l0 k a0 2
set_option maxHeartbeats 8000000 in
set_option maxRecDepth 100000 in
theorem strongroomref02_whole.calls (k : Nat) (a0 : Int) (r : Bool) (w : World) (h : strongroomref02_whole.f k a0 = some r) :
    Calls Try.prog 64 #[.int .u32 a0] w fun e w' => e = .returned (.bool r) ∧ Drawn0 w w' := by
  have H : (strongroomref02_whole.l0 k a0 2) = some r := h
  clear h
  have H' := Aside0.mk H
  clear H
  go_enter Try.func64, Try.ntmps64
  go_wp2
  go_loopg [3] k (fun kq v3 w' => ∃ (x3_1 : Int), v3 = .int .u32 x3_1 ∧ Aside0 (strongroomref02_whole.l0 kq a0 x3_1 = some r) ∧ Aside0 (kq ≤ k) ∧ Drawn0 w w')
  case atStart => exact ⟨(2), (by first | rfl | (simp; done) | (simp [*]; done)), H', ⟨Nat.le_refl _⟩, by repeat (first | exact Drawn0.refl _ | apply Drawn0.step)⟩
  case round =>
    clear H'
    obtain ⟨x3_1, rfl, HA, HK1, ⟨m1, rfl⟩⟩ := hrel
    cases gk with
    | zero => exact absurd HA.out (by simp [strongroomref02_whole.l0])
    | succ k1 =>
      have H := HA.out
      clear HA
      simp only [strongroomref02_whole.l0] at H
      by_cases c2 : x3_1 < a0
      · rw [if_pos c2] at H
        have c2b0 : decide (x3_1 < a0) = true := decide_eq_true c2
        clear c2
        by_cases c3 : x3_1 = 0
        · rw [if_pos c3] at H
          exact absurd H (by simp)
        · rw [if_neg c3] at H
          have c3b0 : (x3_1 == 0) = false := beq_eq_false_iff_ne.mpr c3
          have c3b1 : (x3_1 != 0) = true := bne_iff_ne.mpr c3
          by_cases c4 : (Int.tmod a0 x3_1) = 0
          · rw [if_pos c4] at H
            have c4b0 : ((Int.tmod a0 x3_1) == 0) = true := beq_iff_eq.mpr c4
            have c4b1 : ((Int.tmod a0 x3_1) != 0) = false := bne_eq_false_iff_eq.mpr c4
            clear c4
            obtain rfl := Option.some.inj H
            go_wp2
            go_ret
            exact ⟨by first | rfl | (simp; done) | (simp [*]; done), by repeat (first | exact Drawn0.refl _ | apply Drawn0.step)⟩
          · rw [if_neg c4] at H
            have c4b0 : ((Int.tmod a0 x3_1) == 0) = false := beq_eq_false_iff_ne.mpr c4
            have c4b1 : ((Int.tmod a0 x3_1) != 0) = true := bne_iff_ne.mpr c4
            have H' := Aside0.mk H
            clear H
            go_wp2
            go_roundg k1
            case measure => have := HK1.out; omega
            case rel => exact ⟨((x3_1 + 1) % 4294967296), (by first | rfl | (simp; done) | (simp [*]; done)), H', ⟨by have := HK1.out; omega⟩, by repeat (first | exact Drawn0.refl _ | apply Drawn0.step)⟩
      · rw [if_neg c2] at H
        have c2b0 : decide (x3_1 < a0) = false := decide_eq_false c2
        clear c2
        obtain rfl := Option.some.inj H
        go_wp2
        go_ret
        exact ⟨by first | rfl | (simp; done) | (simp [*]; done), by repeat (first | exact Drawn0.refl _ | apply Drawn0.step)⟩

-- NOT PRINTED: function 56 (strongroomref02_Words)

end Go.Proofs.Ytimcafohmahapaa.F

-- F58
namespace Go.Proofs.Ytimcafohmahapaa.F
open Go.RowKit Go.Proofs.YtimcafohmahapaaW.PrintWords Go.Proofs.YtimcafohmahapaaW.PrintLast Go.Proofs.YtimcafohmahapaaW.PrintMore
attribute [local go_sem] max2_int min2_int max_two min_two max_three min_three max_four min_four   -- for this text's walks alone
set_option linter.unusedVariables false
set_option linter.unusedSimpArgs false

/-! ### strongroomref02_Prime: function 58 -/
mutual
def strongroomref02_Prime.j0 : Nat → Int → Bool → Option (Int)
  | 0, _, _ => none
  | k + 1, x0, x10 => if x10 = true then (some 0) else (strongroomref02_Prime.l0 k x0 1 (-1))
def strongroomref02_Prime.l0 : Nat → Int → Int → Int → Option (Int)
  | 0, _, _, _ => none
  | k + 1, x0, x3, x4 => if x4 < x0 then ((strongroomref02_whole.f k ((x3 + 1) % 4294967296)).bind fun t279 => (if t279 = true then (strongroomref02_Prime.l0 k x0 ((x3 + 1) % 4294967296) (wrap64 (x4 + 1))) else (strongroomref02_Prime.l0 k x0 ((x3 + 1) % 4294967296) x4))) else (some x3)
end
def strongroomref02_Prime.f (k : Nat) (a0 : Int) : Option (Int) := if a0 < 0 then (strongroomref02_Prime.j0 k a0 true) else (strongroomref02_Prime.j0 k a0 (decide (a0 > 99)))
set_option maxHeartbeats 8000000 in
set_option maxRecDepth 100000 in
theorem strongroomref02_Prime.calls (k : Nat) (a0 : Int) (r : Int) (w : World) (h : strongroomref02_Prime.f k a0 = some r) :
    Calls Try.prog 58 #[.int .i64 a0] w fun e w' => e = .returned (.int .u32 r) ∧ Drawn0 w w' := by
  have H : (if a0 < 0 then (strongroomref02_Prime.j0 k a0 true) else (strongroomref02_Prime.j0 k a0 (decide (a0 > 99)))) = some r := h
  clear h
  have HC2 := Aside0.mk H
  clear H
  go_enter Try.func58, Try.ntmps58
  go_upto_region 1 with (fail)
  go_cut [10] (fun v10 wc => ∃ (kq : Nat) (x10_1 : Bool), v10 = .bool x10_1 ∧ Aside0 (strongroomref02_Prime.j0 kq a0 x10_1 = some r) ∧ Aside0 (kq ≤ k) ∧ Drawn0 w wc)
  case first =>
    have H := HC2.out
    clear HC2
    by_cases c3 : a0 < 0
    · rw [if_pos c3] at H
      have c3b0 : decide (a0 < 0) = true := decide_eq_true c3
      clear c3
      (first | rw [c3b0] | (simp only [i64_w, i32_w]; rw [c3b0]) | skip)
      have H' := Aside0.mk H
      clear H
      go_wp2
      go_meet
      case rel => exact ⟨_, (true), (by first | rfl | (simp; done) | (simp [*]; done)), H', ⟨by first | omega | exact Nat.le_refl _⟩, by repeat (first | exact Drawn0.refl _ | apply Drawn0.step)⟩
    · rw [if_neg c3] at H
      have c3b0 : decide (a0 < 0) = false := decide_eq_false c3
      clear c3
      (first | rw [c3b0] | (simp only [i64_w, i32_w]; rw [c3b0]) | skip)
      have H' := Aside0.mk H
      clear H
      go_wp2
      go_meet
      case rel => exact ⟨_, (decide (a0 > 99)), (by first | rfl | (simp; done) | (simp [*]; done)), H', ⟨by first | omega | exact Nat.le_refl _⟩, by repeat (first | exact Drawn0.refl _ | apply Drawn0.step)⟩
  case rest =>
    clear HC2
    try clear p2
    try clear c3
    try clear c3b0
    obtain ⟨kq, x10_1, rfl, HA, HJ1, ⟨mc1, rfl⟩⟩ := hcut
    cases kq with
    | zero => exact absurd HA.out (by simp [strongroomref02_Prime.j0])
    | succ kj1 =>
      have H := HA.out
      clear HA
      simp only [strongroomref02_Prime.j0] at H
      by_cases c4 : x10_1 = true
      · subst c4
        have H1 : (some 0) = some r := by rw [if_pos rfl] at H; exact H
        clear H
        have H := H1
        clear H1
        obtain rfl := Option.some.inj H
        go_wp2
        go_ret
        exact ⟨by first | rfl | (simp; done) | (simp [*]; done), by repeat (first | exact Drawn0.refl _ | apply Drawn0.step)⟩
      · replace c4 := Bool.eq_false_iff.mpr c4
        subst c4
        have H1 : (strongroomref02_Prime.l0 kj1 a0 1 (-1)) = some r := by rw [if_neg (show ¬ (false = true) by decide)] at H; exact H
        clear H
        have H := H1
        clear H1
        have H' := Aside0.mk H
        clear H
        go_wp2
        go_loopg [3, 4] kj1 (fun kq v3 v4 w' => ∃ (x3_2 : Int) (x4_2 : Int), v3 = .int .u32 x3_2 ∧ v4 = .int .i64 x4_2 ∧ Aside0 (strongroomref02_Prime.l0 kq a0 x3_2 x4_2 = some r) ∧ Aside0 (kq ≤ kj1) ∧ Drawn0 w w')
        case atStart => exact ⟨(1), ((-1)), (by first | rfl | (simp; done) | (simp [*]; done)), (by first | rfl | (simp; done) | (simp [*]; done)), H', ⟨Nat.le_refl _⟩, by repeat (first | exact Drawn0.refl _ | apply Drawn0.step)⟩
        case round =>
          clear H'
          try clear c1
          try clear p2
          try clear c3
          try clear c3b0
          try clear c4
          try clear p2
          obtain ⟨x3_2, x4_2, rfl, rfl, HA, HK2, ⟨m2, rfl⟩⟩ := hrel
          cases gk with
          | zero => exact absurd HA.out (by simp [strongroomref02_Prime.l0])
          | succ k2 =>
            have H := HA.out
            clear HA
            simp only [strongroomref02_Prime.l0] at H
            by_cases c5 : x4_2 < a0
            · rw [if_pos c5] at H
              have c5b0 : decide (x4_2 < a0) = true := decide_eq_true c5
              clear c5
              replace H := Option.bind_eq_some_iff.mp H
              obtain ⟨t279, A60, H⟩ := H
              replace H : (if t279 = true then (strongroomref02_Prime.l0 k2 a0 ((x3_2 + 1) % 4294967296) (wrap64 (x4_2 + 1))) else (strongroomref02_Prime.l0 k2 a0 ((x3_2 + 1) % 4294967296) x4_2)) = some r := H
              have A6 := Aside0.mk A60
              clear A60
              by_cases c7 : t279 = true
              · subst c7
                have H1 : (strongroomref02_Prime.l0 k2 a0 ((x3_2 + 1) % 4294967296) (wrap64 (x4_2 + 1))) = some r := by rw [if_pos rfl] at H; exact H
                clear H
                have H := H1
                clear H1
                have H' := Aside0.mk H
                clear H
                go_wp2_with (first | ((with_reducible refine gate_callee (f := 64) rfl ?_); refine goesL_ (some 17) rfl rfl Try.func64 (by kernel_rfl) rfl #[.int .u32 ((x3_2 + 1) % 4294967296)] rfl (by (try simp only [List.map_toArray, List.map_cons, List.map_nil]); first | done | rfl | (simp only [List.length_drop, List.length_take]; rfl)) ?_; (with_reducible refine (strongroomref02_whole.calls k2 ((x3_2 + 1) % 4294967296) true _ A6.out).mono ?_); rintro e w' ⟨rfl, ⟨nd, rfl⟩⟩; refine ⟨_, rfl, ?_⟩))
                go_roundg k2
                case measure => have := HJ1.out; have := HK2.out; omega
                case rel => exact ⟨((x3_2 + 1) % 4294967296), (wrap64 (x4_2 + 1)), (by first | rfl | (simp; done) | (simp [*]; done)), (by first | rfl | (simp; done) | (simp [*]; done)), H', ⟨by have := HJ1.out; have := HK2.out; omega⟩, by repeat (first | exact Drawn0.refl _ | apply Drawn0.step)⟩
              · replace c7 := Bool.eq_false_iff.mpr c7
                subst c7
                have H1 : (strongroomref02_Prime.l0 k2 a0 ((x3_2 + 1) % 4294967296) x4_2) = some r := by rw [if_neg (show ¬ (false = true) by decide)] at H; exact H
                clear H
                have H := H1
                clear H1
                have H' := Aside0.mk H
                clear H
                go_wp2_with (first | ((with_reducible refine gate_callee (f := 64) rfl ?_); refine goesL_ (some 17) rfl rfl Try.func64 (by kernel_rfl) rfl #[.int .u32 ((x3_2 + 1) % 4294967296)] rfl (by (try simp only [List.map_toArray, List.map_cons, List.map_nil]); first | done | rfl | (simp only [List.length_drop, List.length_take]; rfl)) ?_; (with_reducible refine (strongroomref02_whole.calls k2 ((x3_2 + 1) % 4294967296) false _ A6.out).mono ?_); rintro e w' ⟨rfl, ⟨nd, rfl⟩⟩; refine ⟨_, rfl, ?_⟩))
                go_roundg k2
                case measure => have := HJ1.out; have := HK2.out; omega
                case rel => exact ⟨((x3_2 + 1) % 4294967296), (x4_2), (by first | rfl | (simp; done) | (simp [*]; done)), (by first | rfl | (simp; done) | (simp [*]; done)), H', ⟨by have := HJ1.out; have := HK2.out; omega⟩, by repeat (first | exact Drawn0.refl _ | apply Drawn0.step)⟩
            · rw [if_neg c5] at H
              have c5b0 : decide (x4_2 < a0) = false := decide_eq_false c5
              clear c5
              obtain rfl := Option.some.inj H
              go_wp2
              go_ret
              exact ⟨by first | rfl | (simp; done) | (simp [*]; done), by repeat (first | exact Drawn0.refl _ | apply Drawn0.step)⟩

end Go.Proofs.Ytimcafohmahapaa.F

-- ShaQ
namespace Go.Proofs.Ytimcafohmahapaa.F
open Go Go.RowKit Go.Proofs.YtimcafohmahapaaW.PrintWords Go.Proofs.YtimcafohmahapaaW.PrintLast Go.Proofs.YtimcafohmahapaaW.PrintMore Go.Proofs.YtimcafohmahapaaR
set_option linter.unusedSimpArgs false
set_option linter.unusedVariables false
set_option maxRecDepth 100000
/-- no number from d on, below p, divides p -/
def noneFrom (p d : Nat) : Bool := (List.range' d (p - d)).all (fun e => p % e != 0)
/-- is a number divided by none that is less, but 1? -/
def wholeN (p : Nat) : Bool := noneFrom p 2
/-- no number from d on whose square is no more than p divides p (p below 625) -/
def restOK (p d : Nat) : Bool := (List.range' d (25 - d)).all (fun e => decide (p < e * e) || p % e != 0)
theorem whole_rest : ∀ p : Fin 542, 2 ≤ p.val → wholeN p.val = restOK p.val 2 := by decide +kernel
/-- how many primes are below a number -/
def cnt (p : Nat) : Nat := ((List.range' 2 (p - 2)).filter wholeN).length
/-- the first hundred primes -/
def primesL : List Nat := (List.range' 2 540).filter wholeN
theorem cnt_succ (p : Nat) (hp : 2 ≤ p) : cnt (p + 1) = cnt p + (if wholeN p = true then 1 else 0) := by
  unfold cnt
  rw [show p + 1 - 2 = (p - 2) + 1 from by omega, List.range'_concat, List.filter_append, List.length_append]
  congr 1
  rw [show 2 + 1 * (p - 2) = p from by omega]
  by_cases h : wholeN p = true <;> simp [h]
theorem cnt_541 : cnt 541 = 99 ∧ wholeN 541 = true := by decide +kernel
theorem prime_at (p : Nat) (hp : 2 ≤ p) (h : p ≤ 541) (hw : wholeN p = true) : primesL.getD (cnt p) 0 = p := by
  have e : List.range' 2 540 = List.range' 2 (p - 2) ++ (p :: List.range' (p + 1) (541 - p)) := by
    have h1 := List.range'_append (s := 2) (m := p - 2) (n := 542 - p) (step := 1)
    rw [show p - 2 + (542 - p) = 540 from by omega, show 2 + 1 * (p - 2) = p from by omega] at h1
    rw [← h1, show 542 - p = (541 - p) + 1 from by omega, List.range'_succ]
  unfold primesL cnt
  rw [e, List.filter_append, List.filter_cons, if_pos hw]
  simp [List.getD]
theorem rest_step (p d : Nat) (hd : d < 25) : restOK p d = ((decide (p < d * d) || p % d != 0) && restOK p (d + 1)) := by
  unfold restOK
  rw [show 25 - d = (25 - (d + 1)) + 1 from by omega, List.range'_succ, List.all_cons]
theorem rest_done (p : Nat) : ∀ j d, 25 - d = j → p < d * d → restOK p d = true := by
  intro j
  induction j with
  | zero => intro d hd h; unfold restOK; rw [hd]; rfl
  | succ j ih =>
    intro d hd h
    have h2 : d * d ≤ (d + 1) * (d + 1) := Nat.mul_le_mul (by omega) (by omega)
    rw [rest_step p d (by omega), ih (d + 1) (by omega) (by omega), decide_eq_true h]; rfl
theorem prime_l1 (i p n : Nat) (hp : p ≤ 541) (hn : n ≤ 100) : ∀ (j d : Nat) (b : Bool), 25 - d = j → 2 ≤ d → d ≤ 25 → ∃ m, ∀ k : Nat, sha_Prime.l1 (k + m) i p n b d =
    if (b && restOK p d) = true then (if n = i then some (p : Int) else sha_Prime.l0 k i ((p + 1 : Nat) : Int) ((n + 1 : Nat) : Int)) else sha_Prime.l0 k i ((p + 1 : Nat) : Int) n := by
  have stop : ∀ (d : Nat) (b : Bool), 2 ≤ d → d ≤ 25 → p < d * d → ∃ m, ∀ k : Nat, sha_Prime.l1 (k + m) i p n b d =
      if (b && restOK p d) = true then (if n = i then some (p : Int) else sha_Prime.l0 k i ((p + 1 : Nat) : Int) ((n + 1 : Nat) : Int)) else sha_Prime.l0 k i ((p + 1 : Nat) : Int) n := by
    intro d b h2 h25 hsq
    refine ⟨1, fun k => ?_⟩
    have hq : ((d : Int) * (d : Int)) % 4294967296 = ((d * d : Nat) : Int) := by
      have : d * d ≤ 25 * 25 := Nat.mul_le_mul h25 h25
      rw [show (d : Int) * (d : Int) = ((d * d : Nat) : Int) from by simp]; omega
    rw [sha_Prime.l1, hq, if_neg (by omega), rest_done p _ d rfl hsq, Bool.and_true]
    rw [show ((p : Int) + 1) % 4294967296 = ((p + 1 : Nat) : Int) from by omega, show wrap64 ((n : Int) + 1) = ((n + 1 : Nat) : Int) from by unfold wrap64; omega]
    cases b
    · rfl
    · rw [if_pos rfl, if_pos rfl]
      by_cases h : n = i
      · rw [if_pos (by omega), if_pos h]
      · rw [if_neg (by omega), if_neg h]
  intro j
  induction j with
  | zero =>
    intro d b hd h2 h25
    obtain rfl : d = 25 := by omega
    exact stop 25 b h2 h25 (by omega)
  | succ j ih =>
    intro d b hd h2 h25
    by_cases hsq : p < d * d
    · exact stop d b h2 h25 hsq
    · have hq : ((d : Int) * (d : Int)) % 4294967296 = ((d * d : Nat) : Int) := by
        have : d * d ≤ 25 * 25 := Nat.mul_le_mul h25 h25
        rw [show (d : Int) * (d : Int) = ((d * d : Nat) : Int) from by simp]; omega
      have ht : Int.tmod (p : Int) (d : Int) = ((p % d : Nat) : Int) := by rw [Int.tmod_eq_emod_of_nonneg (by omega)]; simp
      have hr := rest_step p d (by omega)
      rw [decide_eq_false hsq, Bool.false_or] at hr
      cases b
      · obtain ⟨m, hm⟩ := ih (d + 1) false (by omega) (by omega) (by omega)
        refine ⟨m + 1, fun k => ?_⟩
        rw [← Nat.add_assoc, sha_Prime.l1, hq, if_pos (by omega), if_neg (by simp), show ((d : Int) + 1) % 4294967296 = ((d + 1 : Nat) : Int) from by omega, hm]
        simp
      · obtain ⟨m, hm⟩ := ih (d + 1) (p % d != 0) (by omega) (by omega) (by omega)
        refine ⟨m + 1, fun k => ?_⟩
        rw [← Nat.add_assoc, sha_Prime.l1, hq, if_pos (by omega), if_pos rfl, if_neg (by omega), show ((d : Int) + 1) % 4294967296 = ((d + 1 : Nat) : Int) from by omega, ht,
          show (((p % d : Nat) : Int) != 0) = (p % d != 0) from by rw [Bool.eq_iff_iff]; simp; omega, hm, hr, Bool.true_and]
theorem prime_l0 (i : Nat) (hi : i ≤ 99) : ∀ (j p : Nat), 541 - p = j → 2 ≤ p → p ≤ 541 → cnt p ≤ i → ∃ k, sha_Prime.l0 k i p (cnt p : Nat) = some ((primesL.getD i 0 : Nat) : Int) := by
  intro j
  induction j with
  | zero =>
    intro p hj h2 h541 hc
    obtain rfl : p = 541 := by omega
    have hc9 := cnt_541.1
    obtain ⟨m, hm⟩ := prime_l1 i 541 (cnt 541) (by omega) (by omega) 23 2 true rfl (by omega) (by omega)
    refine ⟨0 + m + 1, ?_⟩
    rw [sha_Prime.l0, show (2 : Int) = ((2 : Nat) : Int) from rfl]
    rw [hm, ← whole_rest ⟨541, by omega⟩ (by show 2 ≤ 541; omega), cnt_541.2, Bool.true_and, if_pos rfl, if_pos (by omega)]
    rw [show i = cnt 541 from by omega, prime_at 541 (by omega) (by omega) cnt_541.2]
  | succ j ih =>
    intro p hj h2 h541 hc
    obtain ⟨m, hm⟩ := prime_l1 i p (cnt p) (by omega) (by omega) 23 2 true rfl (by omega) (by omega)
    have hs := cnt_succ p h2
    have hw := whole_rest ⟨p, by omega⟩ h2
    by_cases hwp : wholeN p = true
    · by_cases hci : cnt p = i
      · refine ⟨0 + m + 1, ?_⟩
        rw [sha_Prime.l0, show (2 : Int) = ((2 : Nat) : Int) from rfl]
        rw [hm, ← hw, hwp, Bool.true_and, if_pos rfl, if_pos hci]
        rw [← hci, prime_at p h2 h541 hwp]
      · rw [if_pos hwp] at hs
        obtain ⟨k, hk⟩ := ih (p + 1) (by omega) (by omega) (by omega) (by omega)
        refine ⟨k + m + 1, ?_⟩
        rw [sha_Prime.l0, show (2 : Int) = ((2 : Nat) : Int) from rfl]
        rw [hm, ← hw, hwp, Bool.true_and, if_pos rfl, if_neg hci, ← hs, hk]
    · rw [if_neg hwp] at hs
      obtain ⟨k, hk⟩ := ih (p + 1) (by omega) (by omega) (by omega) (by omega)
      refine ⟨k + m + 1, ?_⟩
      rw [sha_Prime.l0, show (2 : Int) = ((2 : Nat) : Int) from rfl]
      rw [hm, ← hw, Bool.true_and, if_neg hwp]
      rw [Nat.add_zero] at hs
      rw [hs] at hk
      exact hk
/-- the prime of a number, or none -/
def primeI (i : Int) : Int := if i < 0 ∨ 99 < i then 0 else ((primesL.getD i.toNat 0 : Nat) : Int)
theorem prime_f (i : Int) : ∃ k, sha_Prime.f k i = some (primeI i) := by
  unfold primeI
  by_cases h0 : i < 0
  · exact ⟨1, by unfold sha_Prime.f; rw [if_pos h0, if_pos (Or.inl h0)]; rfl⟩
  by_cases h9 : 99 < i
  · exact ⟨1, by unfold sha_Prime.f; rw [if_neg h0, if_pos (Or.inr h9), decide_eq_true h9]; rfl⟩
  obtain ⟨n, rfl⟩ := Int.eq_ofNat_of_zero_le (by omega : 0 ≤ i)
  obtain ⟨k, hk⟩ := prime_l0 n (by omega) 539 2 rfl (by omega) (by omega) (by rw [show cnt 2 = 0 from rfl]; omega)
  refine ⟨k + 1, ?_⟩
  unfold sha_Prime.f
  rw [if_neg h0, if_neg (by omega), decide_eq_false (by omega), sha_Prime.j0, if_neg (by simp), Int.toNat_natCast]
  exact hk
theorem prime_c (i : Int) (w : World) : Calls Try.prog 52 #[.int .i64 i] w (Tells w (Is (.int .u32 (primeI i)))) := by
  obtain ⟨k, hk⟩ := prime_f i
  exact tells_is ((sha_Prime.calls k i _ w hk).mono fun _ _ ⟨h, k⟩ => ⟨h, drawn_below k⟩)
theorem rwhole_l0 (p : Nat) (hp : p < 4294967296) : ∀ (j d k : Nat), p - d = j → 2 ≤ d → j < k → strongroomref02_whole.l0 k p d = some (noneFrom p d) := by
  intro j
  induction j with
  | zero =>
    intro d k hj h2 hk
    obtain ⟨k, rfl⟩ : ∃ m, k = m + 1 := ⟨k - 1, by omega⟩
    rw [strongroomref02_whole.l0, if_neg (by omega)]
    unfold noneFrom; rw [hj]; rfl
  | succ j ih =>
    intro d k hj h2 hk
    obtain ⟨k, rfl⟩ : ∃ m, k = m + 1 := ⟨k - 1, by omega⟩
    have ht : Int.tmod (p : Int) (d : Int) = ((p % d : Nat) : Int) := by rw [Int.tmod_eq_emod_of_nonneg (by omega)]; simp
    have hs : noneFrom p d = ((p % d != 0) && noneFrom p (d + 1)) := by
      unfold noneFrom
      rw [show p - d = (p - (d + 1)) + 1 from by omega, List.range'_succ, List.all_cons]
    rw [strongroomref02_whole.l0, if_pos (by omega), if_neg (by omega), ht, hs]
    by_cases h : p % d = 0
    · rw [if_pos (by omega), h]; rfl
    · rw [if_neg (by omega), show ((d : Int) + 1) % 4294967296 = ((d + 1 : Nat) : Int) from by omega, ih (d + 1) k (by omega) (by omega) (by omega)]
      simp [h]
theorem rwhole_f (p k : Nat) (hp : p < 4294967296) (hk : p < k) : strongroomref02_whole.f k p = some (wholeN p) := by
  unfold strongroomref02_whole.f wholeN
  exact rwhole_l0 p hp _ 2 k rfl (by omega) (by omega)
theorem rwhole_c (p : Nat) (hp : p < 4294967296) (w : World) : Calls Try.prog 64 #[.int .u32 p] w (Tells w (Is (.bool (wholeN p)))) :=
  tells_is ((strongroomref02_whole.calls (p + 1) p _ w (rwhole_f p (p + 1) hp (by omega))).mono fun _ _ ⟨h, k⟩ => ⟨h, drawn_below k⟩)
theorem rprime_l0 (i : Nat) (hi : i ≤ 99) : ∀ (j p : Nat), 540 - p = j → 1 ≤ p → p ≤ 540 → cnt (p + 1) ≤ i → ∃ K : Nat, ∀ k, K ≤ k → strongroomref02_Prime.l0 k i p ((cnt (p + 1) : Nat) - 1) = some ((primesL.getD i 0 : Nat) : Int) := by
  intro j
  induction j with
  | zero =>
    intro p hj h2 h540 hc
    obtain rfl : p = 540 := by omega
    have hc9 : cnt (540 + 1) = 99 := cnt_541.1
    refine ⟨600, fun k hk => ?_⟩
    obtain ⟨k, rfl⟩ : ∃ m, k = m + 1 + 1 := ⟨k - 2, by omega⟩
    rw [strongroomref02_Prime.l0, if_pos (by omega), show ((540 : Nat) : Int) + 1 = ((541 : Nat) : Int) from rfl, show ((541 : Nat) : Int) % 4294967296 = ((541 : Nat) : Int) from rfl, rwhole_f 541 (k + 1) (by omega) (by omega)]
    simp only [Option.bind_some]
    rw [cnt_541.2, if_pos rfl, strongroomref02_Prime.l0, if_neg (by unfold wrap64; omega)]
    have := prime_at 541 (by omega) (by omega) cnt_541.2
    have hi9 : i = 99 := by omega
    have h9 := cnt_541.1
    rw [h9] at this
    rw [hi9, this]
  | succ j ih =>
    intro p hj h2 h540 hc
    have hs : cnt (p + 1 + 1) = cnt (p + 1) + (if wholeN (p + 1) = true then 1 else 0) := cnt_succ (p + 1) (by omega)
    have hpp : ((p : Int) + 1) % 4294967296 = ((p + 1 : Nat) : Int) := by omega
    by_cases hwp : wholeN (p + 1) = true
    · rw [if_pos hwp] at hs
      by_cases hci : cnt (p + 1) = i
      · refine ⟨600, fun k hk => ?_⟩
        obtain ⟨k, rfl⟩ : ∃ m, k = m + 1 + 1 := ⟨k - 2, by omega⟩
        rw [strongroomref02_Prime.l0, if_pos (by omega), hpp, rwhole_f (p + 1) (k + 1) (by omega) (by omega)]
        simp only [Option.bind_some]
        rw [hwp, if_pos rfl, strongroomref02_Prime.l0, if_neg (by unfold wrap64; omega)]
        rw [← hci, prime_at (p + 1) (by omega) (by omega) hwp]
      · obtain ⟨K, hK⟩ := ih (p + 1) (by omega) (by omega) (by omega) (by omega)
        refine ⟨K + 600, fun k hk => ?_⟩
        obtain ⟨k, rfl⟩ : ∃ m, k = m + 1 := ⟨k - 1, by omega⟩
        rw [strongroomref02_Prime.l0, if_pos (by omega), hpp, rwhole_f (p + 1) k (by omega) (by omega)]
        simp only [Option.bind_some]
        rw [hwp, if_pos rfl, ← hK k (by omega)]
        congr 1
        unfold wrap64; omega
    · rw [if_neg hwp] at hs
      replace hs : cnt (p + 1 + 1) = cnt (p + 1) := by omega
      obtain ⟨K, hK⟩ := ih (p + 1) (by omega) (by omega) (by omega) (by omega)
      refine ⟨K + 600, fun k hk => ?_⟩
      obtain ⟨k, rfl⟩ : ∃ m, k = m + 1 := ⟨k - 1, by omega⟩
      rw [strongroomref02_Prime.l0, if_pos (by omega), hpp, rwhole_f (p + 1) k (by omega) (by omega)]
      simp only [Option.bind_some]
      rw [if_neg hwp, ← hK k (by omega), hs]
theorem rprime_f (i : Int) : ∃ k, strongroomref02_Prime.f k i = some (primeI i) := by
  unfold primeI
  by_cases h0 : i < 0
  · exact ⟨1, by unfold strongroomref02_Prime.f; rw [if_pos h0, if_pos (Or.inl h0)]; rfl⟩
  by_cases h9 : 99 < i
  · exact ⟨1, by unfold strongroomref02_Prime.f; rw [if_neg h0, if_pos (Or.inr h9), decide_eq_true h9]; rfl⟩
  obtain ⟨n, rfl⟩ := Int.eq_ofNat_of_zero_le (by omega : 0 ≤ i)
  obtain ⟨K, hK⟩ := rprime_l0 n (by omega) 539 1 rfl (by omega) (by omega) (by rw [show cnt 2 = 0 from rfl]; omega)
  refine ⟨K + 1, ?_⟩
  unfold strongroomref02_Prime.f
  rw [if_neg h0, if_neg (by omega), decide_eq_false (by omega), strongroomref02_Prime.j0, if_neg (by simp), Int.toNat_natCast]
  exact hK K (by omega)
theorem rprime_c (i : Int) (w : World) : Calls Try.prog 58 #[.int .i64 i] w (Tells w (Is (.int .u32 (primeI i)))) := by
  obtain ⟨k, hk⟩ := rprime_f i
  exact tells_is ((strongroomref02_Prime.calls k i _ w hk).mono fun _ _ ⟨h, k⟩ => ⟨h, drawn_below k⟩)
end Go.Proofs.Ytimcafohmahapaa.F

-- Arr
namespace Go.Proofs.Ytimcafohmahapaa.F
open Go Go.RowKit Go.Proofs.YtimcafohmahapaaW.PrintWords Go.Proofs.YtimcafohmahapaaW.PrintLast Go.Proofs.YtimcafohmahapaaW.PrintMore Go.Proofs.YtimcafohmahapaaR
set_option linter.unusedSimpArgs false
set_option linter.unusedVariables false
theorem Blk.setRow {w : World} {g : Nat} {t : TypeId} {cs : List Value} (h : Blk w g t cs) (c : List Value) : Blk (w.setRow g c.toArray) g t c := setRow_heap w g _ _ t (0, 0) h
theorem Blk.farRow {w : World} {g k : Nat} {t : TypeId} {cs : List Value} (h : Blk w g t cs) (hne : g ≠ k) (c : Array Value) : Blk (w.setRow k c) g t cs := (setRow_other w k g c hne).trans h
theorem Upd.setRow {S : Nat → Prop} {a b : World} {g : Nat} (h : Upd S a b) (hp : S g ∨ a.heap.size ≤ g) (c : Array Value) : Upd S a (b.setRow g c) :=
  ⟨h.os, h.tape, h.output, by rw [setRow_size]; exact h.size, fun k hk hn => by
    rw [setRow_other _ _ _ _ (fun e => by subst e; rcases hp with hp | hp; exact hn hp; omega)]; exact h.block k hk hn⟩
theorem Grew.setRow {a b : World} {g : Nat} (h : Grew a b) (hp : a.heap.size ≤ g) (c : Array Value) : Grew a (b.setRow g c) :=
  ⟨h.os, h.tape, h.output, by rw [setRow_size]; exact h.size, fun k hk => by rw [setRow_other _ _ _ _ (by omega)]; exact h.block k hk⟩
theorem wpList_load_blk {P : Program} {ops : Array Oper} {rest : List Oper} {o : Oper} {a : Act} {w : World} {Q : Exit → Act → World → Prop} {cs : List Value} {t : TypeId} {g : Nat} (hg : Blk w g t cs) (hgd : o.guard = none) (ty : TypeId) (x : Operand) (ho : o.op = .load ty x)
    (hx : a.eval x = .pointer (some ⟨g, 0, none⟩)) (d : TypeDesc)
    (hu : P.underlying ty = some d) (hd : d.isRow = true) (hi : (P.info? ty).map (·.size) = some cs.length)
    (h : wpList P ops Q rest (a.put o.dst (.agg cs.toArray)) w) : wpList P ops Q (o :: rest) a w :=
  wpList_load_row hgd ty x ho g hx t cs.toArray (0, 0) d hg hu (by cases d <;> simp_all) (by simpa using hi) h
theorem wpList_store_blk {P : Program} {ops : Array Oper} {rest : List Oper} {o : Oper} {a : Act} {w : World} {Q : Exit → Act → World → Prop} {cs c : List Value} {t : TypeId} {g : Nat} (hg : Blk w g t cs) (hgd : o.guard = none) (ty : TypeId) (x y : Operand) (ho : o.op = .store ty x y)
    (hx : a.eval x = .pointer (some ⟨g, 0, none⟩)) (hy : a.eval y = .agg c.toArray) (hi : (P.info? ty).map (·.size) = some c.length)
    (hl : cs.length = c.length) (h1 : c.toArray.all (·.oneCell') = true)
    (h : wpList P ops Q rest (a.put o.dst undef) (w.setRow g c.toArray)) : wpList P ops Q (o :: rest) a w :=
  wpList_store_row hgd ty x y ho g c.toArray hx hy t cs.toArray hg (by simpa using hi) (by simpa using hl) h1 h
theorem results_blk {P : Program} {fn : Func} {p : Tmp} {ty : TypeId} (h : fn.results = #[.cell p ty]) (tmps : Array Value) {w : World} {g : Nat} {t : TypeId} {cs : List Value} (hg : Blk w g t cs) (d : TypeDesc)
    (hp : tmps.getD p undef = .pointer (some ⟨g, 0, none⟩))
    (hu : P.underlying ty = some d) (hd : d.isRow = true) (hi : (P.info? ty).map (·.size) = some cs.length) :
    (results fn tmps).run P w = .ok (.agg cs.toArray) w :=
  results_cell_row h tmps w g t cs.toArray (0, 0) d hp hg hu (by cases d <;> simp_all) (by simpa using hi)
theorem run_index_arr {P : Program} (w : World) (t e : TypeId) (n : Nat) (cs : List Value) (k : IntKind) (i : Nat) (v : Value) (h : P.underlying t = some (.array n e)) (hs : ∀ w', Sem.run P (sizeOf e) w' = .ok 1 w') (ha : ∀ w', Sem.run P (isAgg e) w' = .ok false w') (hi : i < n) (hv : cs[i]? = some v) :
    (Instr.index t (.agg cs.toArray) (.int k (i : Int))).run P w = .ok v w := by
  have hn : (0 : Int) ≤ (i : Int) ∧ (i : Int) < (n : Int) := by omega
  simp [Instr.index, run_underlying h, asIntOf, hn, hv, hi, hs, ha, go_sem]
end Go.Proofs.Ytimcafohmahapaa.F

-- ShaK
namespace Go.Proofs.Ytimcafohmahapaa.F
open Go Go.RowKit Go.Proofs.YtimcafohmahapaaW.PrintWords Go.Proofs.YtimcafohmahapaaW.PrintLast Go.Proofs.YtimcafohmahapaaW.PrintMore Go.Proofs.YtimcafohmahapaaR
set_option linter.unusedSimpArgs false
set_option linter.unusedVariables false
set_option maxRecDepth 100000
/-- words as cells -/
def wcells (l : List Nat) : List Value := l.map (fun n : Nat => Value.int .u32 (n : Int))
theorem wcells_len (l : List Nat) : (wcells l).length = l.length := by simp [wcells]
/-- a prime's word -/
def rootw (p : Nat) : Nat := rootL p true 49 0 % 4294967296
/-- the words of the primes below a number -/
def kAt (p : Nat) : List Nat := ((List.range' 2 (p - 2)).filter wholeN).map rootw
/-- the words of the first sixty-four primes -/
def kL : List Nat := kAt 312
/-- filled up to sixty-four -/
def arr64 (l : List Nat) : List Nat := l ++ List.replicate (64 - l.length) 0
theorem kAt_len (p : Nat) : (kAt p).length = cnt p := by simp [kAt, cnt]
theorem kAt_succ (p : Nat) (hp : 2 ≤ p) : kAt (p + 1) = kAt p ++ (if wholeN p = true then [rootw p] else []) := by
  unfold kAt
  rw [show p + 1 - 2 = (p - 2) + 1 from by omega, List.range'_concat, List.filter_append, List.map_append]
  congr 1
  rw [show 2 + 1 * (p - 2) = p from by omega]
  by_cases h : wholeN p = true <;> simp [h]
theorem cnt_mono : ∀ (j p : Nat), 2 ≤ p → cnt p ≤ cnt (p + j) := by
  intro j
  induction j with
  | zero => intro p hp; exact Nat.le_refl _
  | succ j ih =>
    intro p hp
    have h1 := ih p hp
    have h2 := cnt_succ (p + j) (by omega)
    rw [← Nat.add_assoc]
    omega
theorem cnt_312 : cnt 312 = 64 ∧ cnt 311 = 63 := by decide +kernel
theorem cnt_low (p : Nat) (h2 : 2 ≤ p) (h : p ≤ 312) : cnt p ≤ 64 ∧ (cnt p < 64 → p < 312) ∧ (64 ≤ cnt p → p = 312) := by
  have h1 := cnt_mono (312 - p) p h2
  rw [show p + (312 - p) = 312 from by omega, cnt_312.1] at h1
  refine ⟨h1, fun h3 => ?_, fun h3 => ?_⟩
  · rcases Nat.lt_or_ge p 312 with h4 | h4
    · exact h4
    · have : p = 312 := by omega
      subst this; rw [cnt_312.1] at h3; omega
  · rcases Nat.lt_or_ge p 312 with h4 | h4
    · have h5 := cnt_mono (311 - p) p h2
      rw [show p + (311 - p) = 311 from by omega, cnt_312.2] at h5
      omega
    · omega
theorem arr_len (l : List Nat) (h : l.length ≤ 64) : (arr64 l).length = 64 := by simp [arr64]; omega
theorem arr_set (l : List Nat) (h : l.length < 64) (x : Nat) : (wcells (arr64 l)).set l.length (.int .u32 (x : Int)) = wcells (arr64 (l ++ [x])) := by
  unfold wcells arr64
  rw [List.map_append, List.set_append_right _ _ (by simp), show 64 - l.length = (64 - (l ++ [x]).length) + 1 from by simp; omega, List.replicate_succ]
  simp
theorem kL_len : kL.length = 64 := by unfold kL; rw [kAt_len]; exact cnt_312.1
theorem arr_kL : arr64 (kAt 312) = kL := by unfold arr64; rw [kAt_len, cnt_312.1]; simp [kL]
theorem cells_get (l : List Nat) (i : Nat) (h : i < l.length) : (wcells l)[i]? = some (.int .u32 ((l.getD i 0 : Nat) : Int)) := by
  simp [wcells, List.getD, h]
theorem wcells_one (l : List Nat) : (wcells l).toArray.all (·.oneCell') = true := by
  refine all_oneCell_toArray fun v hv => ?_
  obtain ⟨n, -, rfl⟩ := List.mem_map.1 hv
  rfl
theorem zeros64 : #[Value.int IntKind.u32 0, Value.int IntKind.u32 0, Value.int IntKind.u32 0, Value.int IntKind.u32 0, Value.int IntKind.u32 0, Value.int IntKind.u32 0, Value.int IntKind.u32 0, Value.int IntKind.u32 0, Value.int IntKind.u32 0, Value.int IntKind.u32 0, Value.int IntKind.u32 0, Value.int IntKind.u32 0, Value.int IntKind.u32 0, Value.int IntKind.u32 0, Value.int IntKind.u32 0, Value.int IntKind.u32 0, Value.int IntKind.u32 0, Value.int IntKind.u32 0, Value.int IntKind.u32 0, Value.int IntKind.u32 0, Value.int IntKind.u32 0, Value.int IntKind.u32 0, Value.int IntKind.u32 0, Value.int IntKind.u32 0, Value.int IntKind.u32 0, Value.int IntKind.u32 0, Value.int IntKind.u32 0, Value.int IntKind.u32 0, Value.int IntKind.u32 0, Value.int IntKind.u32 0, Value.int IntKind.u32 0, Value.int IntKind.u32 0, Value.int IntKind.u32 0, Value.int IntKind.u32 0, Value.int IntKind.u32 0, Value.int IntKind.u32 0, Value.int IntKind.u32 0, Value.int IntKind.u32 0, Value.int IntKind.u32 0, Value.int IntKind.u32 0, Value.int IntKind.u32 0, Value.int IntKind.u32 0, Value.int IntKind.u32 0, Value.int IntKind.u32 0, Value.int IntKind.u32 0, Value.int IntKind.u32 0, Value.int IntKind.u32 0, Value.int IntKind.u32 0, Value.int IntKind.u32 0, Value.int IntKind.u32 0, Value.int IntKind.u32 0, Value.int IntKind.u32 0, Value.int IntKind.u32 0, Value.int IntKind.u32 0, Value.int IntKind.u32 0, Value.int IntKind.u32 0, Value.int IntKind.u32 0, Value.int IntKind.u32 0, Value.int IntKind.u32 0, Value.int IntKind.u32 0, Value.int IntKind.u32 0, Value.int IntKind.u32 0, Value.int IntKind.u32 0, Value.int IntKind.u32 0] = (wcells (arr64 [])).toArray := by rfl
set_option maxHeartbeats 2000000 in
theorem roots_c (w : World) : Calls Try.prog 50 #[] w (Tells w (Is (.agg (wcells kL).toArray))) := by
  go_enter Try.func50, Try.ntmps50
  go_wp2_with fail
  rw [zeros64]
  have hb0 : Blk ((w.alloc (.cells (wcells (arr64 [])).toArray 89)).alloc (.cells (wcells (arr64 [])).toArray 89)) w.heap.size 89 (wcells (arr64 [])) := (Blk.new w _ _).grew (Grew.alloc _ _)
  have hb1 : Blk ((w.alloc (.cells (wcells (arr64 [])).toArray 89)).alloc (.cells (wcells (arr64 [])).toArray 89)) (w.heap.size + 1) 89 (wcells (arr64 [])) := by simpa using Blk.new (w.alloc (.cells (wcells (arr64 [])).toArray 89)) 89 (wcells (arr64 []))
  have hgw : Grew w ((w.alloc (.cells (wcells (arr64 [])).toArray 89)).alloc (.cells (wcells (arr64 [])).toArray 89)) := (Grew.alloc _ _).trans (Grew.alloc _ _)
  obtain ⟨W, hW⟩ : ∃ W, W = ((w.alloc (.cells (wcells (arr64 [])).toArray 89)).alloc (.cells (wcells (arr64 [])).toArray 89)) := ⟨_, rfl⟩
  rw [← hW] at hb0 hb1 hgw ⊢
  clear hW
  have hk2 : kAt 2 = [] := rfl
  rw [← hk2] at hb1
  go_loopw [2, 3] (fun nv pv wr => ∃ p : Nat, 2 ≤ p ∧ p ≤ 312 ∧ pv = .int .u32 (p : Int) ∧ nv = .int .i64 ((cnt p : Nat) : Int) ∧ Blk wr w.heap.size 89 (wcells (arr64 [])) ∧ Blk wr (w.heap.size + 1) 89 (wcells (arr64 (kAt p))) ∧ Grew w wr) (fun _ pv _ => 312 - (intOf pv).toNat)
  case atStart => exact ⟨2, by omega, by omega, rfl, rfl, hb0, hb1, hgw⟩
  case round =>
    obtain ⟨p, h2, h312, rfl, rfl, hz, hk, hg⟩ := hrel
    have hc := cnt_low p h2 h312
    by_cases hlt : cnt p < 64
    · have d1 : decide (((cnt p : Nat) : Int) < 64) = true := decide_eq_true (by omega)
      have hp3 := hc.2.1 hlt
      go_wp2_with fail
      obtain ⟨wo, hwo⟩ : ∃ wo : World, wo = wr := ⟨_, rfl⟩
      go_loopw [4, 5] (fun bv dv wq => ∃ (d : Nat) (b : Bool), dv = .int .u32 (d : Int) ∧ 2 ≤ d ∧ d ≤ 25 ∧ bv = .bool b ∧ (b && restOK p d) = restOK p 2 ∧ wq = wo) (fun _ dv _ => 25 - (intOf dv).toNat)
      case atStart => exact ⟨2, true, rfl, by omega, by omega, rfl, rfl, hwo.symm⟩
      case round =>
        obtain ⟨d, b, rfl, h2d, h25, rfl, hbr, rfl⟩ := hrel
        have hsq : d * d ≤ 25 * 25 := Nat.mul_le_mul h25 h25
        have hmul : IntKind.u32.wrap ((d : Int) * (d : Int)) = ((d * d : Nat) : Int) := by
          rw [show (d : Int) * (d : Int) = ((d * d : Nat) : Int) from by simp, IntWalk.u32_in _ (by omega)]
        obtain ⟨q, hq⟩ : ∃ q, q = d * d := ⟨_, rfl⟩
        rw [← hq] at hmul hsq
        by_cases hle : q ≤ p
        · have hd25 : d < 25 := by
            rcases Nat.lt_or_ge d 25 with h | h
            · exact h
            · have : d = 25 := by omega
              subst this; omega
          have hrs := rest_step p d hd25
          rw [← hq, decide_eq_false (by omega : ¬ p < q), Bool.false_or] at hrs
          have d2 : decide ((q : Int) ≤ (p : Int)) = true := decide_eq_true (by omega)
          have ht : Int.tmod (p : Int) (d : Int) = ((p % d : Nat) : Int) := by rw [Int.tmod_eq_emod_of_nonneg (by omega)]; simp
          have HRS := Lib.hid hrs
          have HBR := Lib.hid hbr
          clear hrs hbr hq hsq hc hk hz hg hb0 hb1 hgw hk2 hwo
          cases b
          · go_wp2_with fail
            go_roundw
            case rel => exact ⟨d + 1, false, by go_num, by omega, by omega, rfl, by rw [Bool.false_and]; have := HBR.out; rwa [Bool.false_and] at this, trivial⟩
            case measure => simp [intOf]; omega
          · go_wp2_with fail
            go_roundw
            case rel =>
              refine ⟨d + 1, ((p : Int) % (d : Int) != 0), by go_num, by omega, by omega, rfl, ?_, trivial⟩
              have h1 := HBR.out
              rw [HRS.out, Bool.true_and] at h1
              rw [← h1]
              congr 1
              rw [Bool.eq_iff_iff]; simp; omega
            case measure => simp [intOf]; omega
        · have d2 : decide ((q : Int) ≤ (p : Int)) = false := decide_eq_false (by omega)
          subst hwo
          rw [rest_done p _ d rfl (by omega), Bool.and_true, ← whole_rest ⟨p, by omega⟩ h2] at hbr
          replace hbr : b = wholeN p := hbr
          have hks := kAt_succ p h2
          have hcs := cnt_succ p h2
          clear hb0 hb1 hgw hk2 hq hsq
          cases hw : wholeN p
          · rw [hw] at hbr hks hcs
            subst hbr
            rw [if_neg (by simp), List.append_nil] at hks
            rw [if_neg (by simp), Nat.add_zero] at hcs
            have HK := Lib.hid hk
            have HZ := Lib.hid hz
            have HKS := Lib.hid hks
            have HCS := Lib.hid hcs
            clear hk hz hks hcs hw hc
            go_wp2_with fail
            go_roundw
            case rel => exact ⟨p + 1, by omega, by omega, by go_num, by rw [HCS.out, Nat.add_zero], HZ.out, by rw [HKS.out]; exact HK.out, hg⟩
            case measure => simp [intOf]; omega
          · rw [hw] at hbr hks hcs
            subst hbr
            rw [if_pos rfl] at hks hcs
            have HK := Lib.hid hk
            have HZ := Lib.hid hz
            have HKS := Lib.hid hks
            have HCS := Lib.hid hcs
            clear hk hz hks hcs hw hc
            go_wp2_with fail
            have hrc : Calls Try.prog 51 #[.int .u32 p, .bool true] wr (Tells wr (Is (.int .u32 ((rootw p : Nat) : Int)))) := root_c p (by omega) true wr
            refine hrc.mono ?_
            rintro e w2 ⟨_, rfl, rfl, hg2⟩
            have hk2 := HK.out.grew hg2
            have hz2 := HZ.out.grew hg2
            have hlen : (arr64 (kAt p)).length = 64 := arr_len _ (by rw [kAt_len]; omega)
            have c1 := hk2.at_ (cnt p)
            rw [cells_get _ _ (by omega)] at c1
            have c2 := hk2.fz (cnt p)
            clear hrc
            go_wp2_with fail
            go_roundw
            case rel =>
              refine ⟨p + 1, by omega, by omega, by go_num, by rw [HCS.out]; simp, hz2.far (by simp) _, ?_, ((Upd.of_grew (S := fun _ => False) (hg.trans hg2)).set (.inr (by simp)) _).grew (by simp)⟩
              have h5 := hk2.set (cnt p) (.int .u32 ((rootw p : Nat) : Int))
              have h6 := arr_set (kAt p) (by rw [kAt_len]; omega) (rootw p)
              rw [kAt_len] at h6
              rw [h6, ← HKS.out] at h5
              exact h5
            case measure => simp [intOf]; omega
    · have d1 : decide (((cnt p : Nat) : Int) < 64) = false := decide_eq_false (by omega)
      obtain rfl : p = 312 := hc.2.2 (by omega)
      rw [arr_kL] at hk
      have HK := Lib.hid hk
      have HZ := Lib.hid hz
      clear hk hz hc hb0 hb1 hk2 hgw
      go_wp2_with (first
        | refine wpList_load_blk HK.out (by rfl) 89 (.tmp 1) (by rfl) (by rfl) _ Try.underlying89 (by rfl) (by rw [wcells_len, kL_len]; kernel_rfl) ?_
        | refine wpList_store_blk (c := wcells kL) HZ.out (by rfl) 89 (.tmp 0) (.tmp 31) (by rfl) (by rfl) (by rfl) (by rw [wcells_len, kL_len]; kernel_rfl) (by rw [wcells_len, wcells_len, kL_len]; rfl) (wcells_one kL) ?_)
      refine bodyPost_ret (results_blk rfl _ (HZ.out.setRow (wcells kL)) _ (by rfl) Try.underlying89 (by rfl) (by rw [wcells_len, kL_len]; kernel_rfl)) rfl ?_
      exact ⟨_, rfl, rfl, Grew.setRow hg (Nat.le_refl _) _⟩
end Go.Proofs.Ytimcafohmahapaa.F

-- ShaX
namespace Go.Proofs.Ytimcafohmahapaa.F
open Go Go.RowKit Go.Proofs.YtimcafohmahapaaW.PrintWords Go.Proofs.YtimcafohmahapaaW.PrintLast Go.Proofs.YtimcafohmahapaaW.PrintMore Go.Proofs.YtimcafohmahapaaR
attribute [local go_sem] max2_int min2_int max_two min_two
set_option linter.unusedSimpArgs false
set_option linter.unusedVariables false
set_option maxRecDepth 100000
/-- words that lie in a block's cells from its head on -/
def Lies (w : World) (g : Nat) (ks : List Nat) : Prop := ∀ i, i < ks.length → w.cell? ⟨g, i, none⟩ = some (.int .u32 ((ks.getD i 0 : Nat) : Int))
theorem Lies.grew {w w' : World} {g : Nat} {ks : List Nat} (h : Lies w g ks) (hg : Grew w w') : Lies w' g ks := fun i hi => pw_cell_below hg (h i hi)
theorem zeros8 : #[Value.int IntKind.u32 0, Value.int IntKind.u32 0, Value.int IntKind.u32 0, Value.int IntKind.u32 0, Value.int IntKind.u32 0, Value.int IntKind.u32 0, Value.int IntKind.u32 0, Value.int IntKind.u32 0] = (wcells (List.replicate 8 0)).toArray := by rfl
/-- the world of a mixing: the state, the result and the schedule lie in three blocks of its own -/
structure MixM (w : World) (s x : List Nat) (wr : World) : Prop where
  b0 : Blk wr w.heap.size 91 (wcells s)
  b1 : Blk wr (w.heap.size + 1) 91 (wcells (List.replicate 8 0))
  b2 : Blk wr (w.heap.size + 1 + 1) 89 (wcells x)
  gr : Grew w wr
theorem MixM.grew {w : World} {s x : List Nat} {wr w' : World} (h : MixM w s x wr) (hg : Grew wr w') : MixM w s x w' := ⟨h.b0.grew hg, h.b1.grew hg, h.b2.grew hg, h.gr.trans hg⟩
theorem Grew.setCell_new {a b : World} (h : Grew a b) {p : Addr} (hp : a.heap.size ≤ p.block) (u : Value) : Grew a (b.setCell p u) :=
  ((Upd.of_grew (S := fun _ => False) h).set (.inr hp) u).grew (by simp)
theorem wcells_set (x : List Nat) (i v : Nat) : (wcells x).set i (.int .u32 (v : Int)) = wcells (x.set i v) := by
  unfold wcells; rw [List.map_set]
theorem MixM.set2 {w : World} {s x : List Nat} {wr : World} (h : MixM w s x wr) (i v : Nat) : MixM w s (x.set i v) (wr.setCell ⟨w.heap.size + 1 + 1, i, none⟩ (.int .u32 (v : Int))) :=
  ⟨h.b0.far (by simp; omega) _, h.b1.far (by simp) _, by rw [← wcells_set]; exact h.b2.set i _, Grew.setCell_new h.gr (by simp; omega) _⟩
theorem MixM.set0 {w : World} {s x : List Nat} {wr : World} (h : MixM w s x wr) (i v : Nat) : MixM w (s.set i v) x (wr.setCell ⟨w.heap.size, i, none⟩ (.int .u32 (v : Int))) :=
  ⟨by rw [← wcells_set]; exact h.b0.set i _, h.b1.far (by simp) _, h.b2.far (by simp; omega) _, Grew.setCell_new h.gr (by simp) _⟩
/-- a word's first bytes -/
def partB (l : List Int) (t : Nat) : Nat → Nat
  | 0 => 0
  | j + 1 => partB l t j * 256 + byteN l (4 * t + j)
theorem partB_4 (l : List Int) (t : Nat) : partB l t 4 = be32 l t := by
  unfold be32; simp only [partB, Nat.add_zero]; omega
theorem arr_set0 (x : List Nat) (h : x.length < 64) : (arr64 x).set x.length 0 = arr64 x := by
  unfold arr64
  rw [List.set_append_right _ _ (by omega), show 64 - x.length = (64 - x.length - 1) + 1 from by omega, List.replicate_succ]
  simp
theorem arr_setN (x : List Nat) (h : x.length < 64) (v : Nat) : (arr64 x).set x.length v = arr64 (x ++ [v]) := by
  unfold arr64
  rw [List.set_append_right _ _ (by omega), show 64 - x.length = (64 - (x ++ [v]).length) + 1 from by simp; omega, List.replicate_succ]
  simp
theorem partB_lt {l : List Int} (h : ∀ x ∈ l, 0 ≤ x ∧ x < 256) (t : Nat) : ∀ j, partB l t j < 256 ^ j
  | 0 => by simp [partB]
  | j + 1 => by
    have h1 := partB_lt h t j
    have h2 := byteN_lt h (4 * t + j)
    unfold partB; rw [Nat.pow_succ]; omega
theorem turn_n (a : Nat) (m : Int) (n : Nat) (hm : m = (n : Int)) (ha : a < 4294967296) (h1 : 1 ≤ n) (h2 : n ≤ 31) (w : World) : Calls Try.prog 63 #[.int .u32 (a : Int), .int .i64 m] w (Tells w (Is (.int .u32 ((rotW a n : Nat) : Int)))) := by
  subst hm; exact turn_c a n ha h1 h2 w
theorem shr_3 (x : Nat) : (x : Int) / 8 = ((shrW x 3 : Nat) : Int) := by unfold shrW; rw [Nat.shiftRight_eq_div_pow]; simp
theorem shr_10 (x : Nat) : (x : Int) / 1024 = ((shrW x 10 : Nat) : Int) := by unfold shrW; rw [Nat.shiftRight_eq_div_pow]; simp
theorem arr_get (x : List Nat) (i : Nat) : (arr64 x).getD i 0 = x.getD i 0 := by
  unfold arr64
  rw [List.getD_eq_getElem?_getD, List.getD_eq_getElem?_getD]
  by_cases h : i < x.length
  · rw [List.getElem?_append_left h]
  · rw [List.getElem?_append_right (by omega), List.getElem?_replicate, List.getElem?_eq_none (by omega)]
    split <;> rfl
set_option maxHeartbeats 4000000 in
theorem mix_c (w : World) (gk : Nat) (ks s : List Nat) (A : Option Addr) (c : Nat) (l : List Int) (hk : Lies w gk ks) (hkl : ks.length = 64) (hkw : words ks) (hsl : s.length = 8) (hsw : words s) (hl : l.length = 64) (hlb : ∀ x ∈ l, 0 ≤ x ∧ x < 256) (hC : Kd.C (Kd.int .u8) w A 64 l) (hc : 64 ≤ c) :
    Calls Try.prog 53 #[.pointer (some ⟨gk, 0, none⟩), .agg (wcells s).toArray, .slice A 64 c] w (Tells w (Is (.agg (wcells (mixL ks s l)).toArray))) := by
  obtain ⟨ad, rfl, hB⟩ : ∃ ad, A = some ad ∧ ∀ i, i < 64 → True ∧ w.cell? (ad.add i) = some (.int .u8 ((byteN l i : Nat) : Int)) := by
    have hr := Kd.reads_of_C (enc := Value.int .u8) (d := (0 : Int)) (h1 := fun _ => rfl) hC
    obtain ⟨ad, hA, -⟩ := hr.at_ 0 (by omega) (by omega)
    refine ⟨ad, hA, fun i hi => ⟨trivial, ?_⟩⟩
    obtain ⟨ad2, hA2, hc2⟩ := hr.at_ (i : Int) (by omega) (by omega)
    rw [hA] at hA2
    obtain rfl := Option.some.inj hA2
    have h0 : 0 ≤ l.getD i 0 := by
      rw [List.getD_eq_getElem?_getD, List.getElem?_eq_getElem (by omega)]
      exact (hlb _ (List.getElem_mem (by omega))).1
    have e : ((byteN l i : Nat) : Int) = l.getD i 0 := by unfold byteN; omega
    rw [e]
    simpa [rdOf] using hc2
  clear hC
  go_enter Try.func53, Try.ntmps53
  go_wp2_with fail
  rw [zeros8, zeros64]
  have hm0 : MixM w s (arr64 []) (((w.alloc (.cells (wcells s).toArray 91)).alloc (.cells (wcells (List.replicate 8 0)).toArray 91)).alloc (.cells (wcells (arr64 [])).toArray 89)) :=
    ⟨((Blk.new w _ _).grew (Grew.alloc _ _)).grew (Grew.alloc _ _), by simpa using (Blk.new (w.alloc (.cells (wcells s).toArray 91)) 91 (wcells (List.replicate 8 0))).grew (Grew.alloc _ _), by simpa using Blk.new ((w.alloc (.cells (wcells s).toArray 91)).alloc (.cells (wcells (List.replicate 8 0)).toArray 91)) 89 (wcells (arr64 [])), ((Grew.alloc _ _).trans (Grew.alloc _ _)).trans (Grew.alloc _ _)⟩
  obtain ⟨W, hW⟩ : ∃ W, W = (((w.alloc (.cells (wcells s).toArray 91)).alloc (.cells (wcells (List.replicate 8 0)).toArray 91)).alloc (.cells (wcells (arr64 [])).toArray 89)) := ⟨_, rfl⟩
  rw [← hW] at hm0 ⊢
  clear hW
  go_loopw [26] (fun iv wr => ∃ t : Nat, iv = .int .i64 (t : Int) ∧ t ≤ 64 ∧ MixM w s (arr64 (ws l t)) wr) (fun iv _ => 64 - (intOf iv).toNat)
  case atStart => exact ⟨0, rfl, by omega, hm0⟩
  case round =>
    obtain ⟨t, rfl, ht, hm⟩ := hrel
    clear hm0
    by_cases hlt : t < 64
    · have d1 : decide ((t : Int) < 64) = true := decide_eq_true (by omega)
      by_cases h16 : t < 16
      · have d2 : decide ((t : Int) < 16) = true := decide_eq_true (by omega)
        go_wp2_with fail
        have hx0 : (arr64 (ws l t)).set t (partB l t 0) = arr64 (ws l t) := by have := arr_set0 (ws l t) (by rw [ws_len]; omega); rwa [ws_len] at this
        rw [← hx0] at hm
        clear hx0
        go_loopw [39] (fun jv wq => ∃ j : Nat, jv = .int .i64 (j : Int) ∧ j ≤ 4 ∧ MixM w s ((arr64 (ws l t)).set t (partB l t j)) wq) (fun jv _ => 4 - (intOf jv).toNat)
        case atStart => exact ⟨0, rfl, by omega, hm⟩
        case round =>
          obtain ⟨j, rfl, hj, hmj⟩ := hrel
          clear hm
          by_cases hj4 : j < 4
          · have d3 : decide ((j : Int) < 4) = true := decide_eq_true (by omega)
            obtain ⟨hd, hcell⟩ := hB (4 * t + j) (by omega)
            have hcl := pw_cell_below hmj.gr hcell
            rw [← Addr.add_add ad (4 * t) j] at hcl
            have hpv : ((arr64 (ws l t)).set t (partB l t j)).getD t 0 = partB l t j := by
              rw [List.getD_eq_getElem?_getD, List.getElem?_set_self (by rw [arr_len _ (by rw [ws_len]; omega)]; omega)]; rfl
            have hlen : ((arr64 (ws l t)).set t (partB l t j)).length = 64 := by rw [List.length_set, arr_len _ (by rw [ws_len]; omega)]
            have c1 := hmj.b2.at_ t
            rw [cells_get _ _ (by omega), hpv] at c1
            have c2 := hmj.b2.fz t
            have hby := byteN_lt hlb (4 * t + j)
            obtain ⟨b, hb⟩ : ∃ b, b = byteN l (4 * t + j) := ⟨_, rfl⟩
            rw [← hb] at hcl hby
            have hpl := partB_lt hlb t j
            have hp24 : partB l t j < 16777216 := Nat.lt_of_lt_of_le hpl (by rcases (by omega : j = 0 ∨ j = 1 ∨ j = 2 ∨ j = 3) with rfl | rfl | rfl | rfl <;> simp)
            obtain ⟨pv, hpv2⟩ : ∃ pv, pv = partB l t j := ⟨_, rfl⟩
            rw [← hpv2] at c1 hp24
            have e1 : IntKind.u32.wrap ((pv : Int) * 256) = ((pv * 256 : Nat) : Int) := by rw [IntWalk.u32_in _ (by omega)]; simp
            obtain ⟨q, hq⟩ : ∃ q, q = pv * 256 := ⟨_, rfl⟩
            rw [← hq] at e1
            have e2 : Go.bits .or .u32 (q : Int) (b : Int) = ((q + b : Nat) : Int) := by
              rw [or_w (by omega) (by omega)]; congr 1
              have := or_byte pv b hp24 hby
              unfold shlW at this
              rw [Nat.shiftLeft_eq, Nat.mod_eq_of_lt (by omega)] at this
              rw [hq]; exact this
            obtain ⟨r, hr⟩ : ∃ r, r = q + b := ⟨_, rfl⟩
            rw [← hr] at e2
            have HR := Lib.hid (show r = partB l t (j + 1) from by rw [hr, hq, hpv2, hb]; rfl)
            have HM := Lib.hid hmj
            clear hpv hpl hpv2 hq hr hb hmj hcell hlen hd
            go_wp2_with fail
            go_roundw
            case rel =>
              refine ⟨j + 1, by go_num, by omega, ?_⟩
              have h := HM.out.set2 t r
              rw [List.set_set] at h
              rw [← HR.out]
              exact h
            case measure => simp [intOf]; omega
          · have d3 : decide ((j : Int) < 4) = false := decide_eq_false (by omega)
            obtain rfl : j = 4 := by omega
            have hx4 : (arr64 (ws l t)).set t (partB l t 4) = arr64 (ws l (t + 1)) := by
              have := arr_setN (ws l t) (by rw [ws_len]; omega) (be32 l t)
              rw [ws_len] at this
              rw [partB_4, this]; simp only [ws]; rw [if_pos h16]
            rw [hx4] at hmj
            clear hx4
            go_wp2_with fail
            go_roundw
            case rel => exact ⟨t + 1, by go_num, by omega, hmj⟩
            case measure => simp [intOf]; omega
      · have d2 : decide ((t : Int) < 16) = false := decide_eq_false (by omega)
        have hl64 : (arr64 (ws l t)).length = 64 := arr_len _ (by rw [ws_len]; omega)
        obtain ⟨n15, hn15⟩ : ∃ n, n = t - 15 := ⟨_, rfl⟩
        obtain ⟨n16, hn16⟩ : ∃ n, n = t - 16 := ⟨_, rfl⟩
        obtain ⟨n7, hn7⟩ : ∃ n, n = t - 7 := ⟨_, rfl⟩
        obtain ⟨n2, hn2⟩ : ∃ n, n = t - 2 := ⟨_, rfl⟩
        have e15 : IntKind.i64.wrap ((t : Int) - 15) = (n15 : Int) := by rw [IntWalk.i64_in _ (by omega)]; omega
        have e16 : IntKind.i64.wrap ((t : Int) - 16) = (n16 : Int) := by rw [IntWalk.i64_in _ (by omega)]; omega
        have e7 : IntKind.i64.wrap ((t : Int) - 7) = (n7 : Int) := by rw [IntWalk.i64_in _ (by omega)]; omega
        have e2 : IntKind.i64.wrap ((t : Int) - 2) = (n2 : Int) := by rw [IntWalk.i64_in _ (by omega)]; omega
        have l15 : n15 < 64 := by omega
        have i15 : (n15 : Int) < 64 := by omega
        have l16 : n16 < 64 := by omega
        have i16 : (n16 : Int) < 64 := by omega
        have l7 : n7 < 64 := by omega
        have i7 : (n7 : Int) < 64 := by omega
        have l2 : n2 < 64 := by omega
        have i2 : (n2 : Int) < 64 := by omega
        have c15 := hm.b2.at_ n15
        have c16 := hm.b2.at_ n16
        have c7 := hm.b2.at_ n7
        have c2 := hm.b2.at_ n2
        rw [cells_get _ _ (by omega), arr_get] at c15 c16 c7 c2
        obtain ⟨x15, hx15⟩ : ∃ x, x = (ws l t).getD n15 0 := ⟨_, rfl⟩
        obtain ⟨x16, hx16⟩ : ∃ x, x = (ws l t).getD n16 0 := ⟨_, rfl⟩
        obtain ⟨x7, hx7⟩ : ∃ x, x = (ws l t).getD n7 0 := ⟨_, rfl⟩
        obtain ⟨x2, hx2⟩ : ∃ x, x = (ws l t).getD n2 0 := ⟨_, rfl⟩
        rw [← hx15] at c15
        rw [← hx16] at c16
        rw [← hx7] at c7
        rw [← hx2] at c2
        have b15 : x15 < 4294967296 := by rw [hx15]; exact words_get (ws_words hlb t) _
        have b2 : x2 < 4294967296 := by rw [hx2]; exact words_get (ws_words hlb t) _
        have HN := Lib.hid (show wnext (ws l t) t = addW (addW (addW x16 x7) (sg0 x15)) (sg1 x2) from by rw [hx15, hx16, hx7, hx2, hn15, hn16, hn7, hn2]; rfl)
        have HM := Lib.hid hm
        have C15 := Lib.hid c15
        have C16 := Lib.hid c16
        have C7 := Lib.hid c7
        have C2 := Lib.hid c2
        have f1 := shr_3 x15
        have f2 := xor_w (rotW_lt 7 b15) (rotW_lt 18 b15)
        have f3 := xor_w (xorW_lt (rotW_lt 7 b15) (rotW_lt 18 b15)) (shrW_lt 3 b15)
        clear hm c15 c16 c7 c2 hx15 hx16 hx7 hx2 hn15 hn16 hn7 hn2 hl64
        go_wp2_with fail
        apply region_grew [Is _, Is _, Is _, Is _, Is _, Is _, Is _, Is _, Is _, Is _, Is _, Is _, Is _, Is _, Is _, Is _] [([(8, none)], none), ([(53, some 0)], none), ([(7, none), (54, some 1)], none), ([(55, some 2)], none), ([(56, some 3)], none), ([(8, none)], none), ([(58, some 5)], none), ([(7, none), (59, some 6)], none), ([(60, some 7)], none), ([(61, some 8)], none), ([(57, some 4), (62, some 9)], none), ([(8, none)], none), ([(64, some 11)], none), ([(7, none), (65, some 12)], none), ([(66, some 13)], none), ([(67, some 14)], none)] [(53, 0), (54, 1), (55, 2), (56, 3), (57, 4), (58, 5), (59, 6), (60, 7), (61, 8), (62, 9), (63, 10), (64, 11), (65, 12), (66, 13), (67, 14), (68, 15)] rfl (by kernel_rfl) (by kernel_rfl) (show Stable Grew _ from ⟨Is.stable _, Is.stable _, Is.stable _, Is.stable _, Is.stable _, Is.stable _, Is.stable _, Is.stable _, Is.stable _, Is.stable _, Is.stable _, Is.stable _, Is.stable _, Is.stable _, Is.stable _, Is.stable _, trivial⟩)
        · show OpsHold _ _ _ _ _ _ _ _ _
          refine ⟨fun a_ wx hR hD K hK => ?_, ?_⟩
          · have hG : Grew wr wx := (Grew.drew _).trans hR
            simp [Deps, Dep, at_, Is] at hD
            go_simp
            exact hK _ _ (Grew.refl _) rfl
          refine ⟨fun a_ wx hR hD K hK => ?_, ?_⟩
          · have hG : Grew wr wx := (Grew.drew _).trans hR
            simp [Deps, Dep, at_, Is] at hD
            go_simp
            exact hK _ _ (Grew.refl _) rfl
          refine ⟨fun a_ wx hR hD K hK => ?_, ?_⟩
          · have hG : Grew wr wx := (Grew.drew _).trans hR
            simp [Deps, Dep, at_, Is] at hD
            obtain ⟨hd0, hd1⟩ := hD
            go_simp
            exact hK _ _ (Grew.refl _) rfl
          refine ⟨fun a_ wx hR hD K hK => ?_, ?_⟩
          · have hG : Grew wr wx := (Grew.drew _).trans hR
            simp [Deps, Dep, at_, Is] at hD
            have e_ := pw_cell_below hG C15.out
            go_simp
            exact hK _ _ (Grew.refl _) rfl
          refine ⟨fun a_ wx hR hD K hK => ?_, ?_⟩
          · have hG : Grew wr wx := (Grew.drew _).trans hR
            simp [Deps, Dep, at_, Is] at hD
            go_simp
            have hcn := turn_n x15 7 7 rfl b15 (by omega) (by omega) wx
            with_reducible refine hcn.mono ?_
            clear hcn
            rintro e wy ⟨v, rfl, hv, hg⟩
            exact hK _ _ hg hv
          refine ⟨fun a_ wx hR hD K hK => ?_, ?_⟩
          · have hG : Grew wr wx := (Grew.drew _).trans hR
            simp [Deps, Dep, at_, Is] at hD
            go_simp
            exact hK _ _ (Grew.refl _) rfl
          refine ⟨fun a_ wx hR hD K hK => ?_, ?_⟩
          · have hG : Grew wr wx := (Grew.drew _).trans hR
            simp [Deps, Dep, at_, Is] at hD
            go_simp
            exact hK _ _ (Grew.refl _) rfl
          refine ⟨fun a_ wx hR hD K hK => ?_, ?_⟩
          · have hG : Grew wr wx := (Grew.drew _).trans hR
            simp [Deps, Dep, at_, Is] at hD
            obtain ⟨hd0, hd1⟩ := hD
            go_simp
            exact hK _ _ (Grew.refl _) rfl
          refine ⟨fun a_ wx hR hD K hK => ?_, ?_⟩
          · have hG : Grew wr wx := (Grew.drew _).trans hR
            simp [Deps, Dep, at_, Is] at hD
            have e_ := pw_cell_below hG C15.out
            go_simp
            exact hK _ _ (Grew.refl _) rfl
          refine ⟨fun a_ wx hR hD K hK => ?_, ?_⟩
          · have hG : Grew wr wx := (Grew.drew _).trans hR
            simp [Deps, Dep, at_, Is] at hD
            go_simp
            have hcn := turn_n x15 18 18 rfl b15 (by omega) (by omega) wx
            with_reducible refine hcn.mono ?_
            clear hcn
            rintro e wy ⟨v, rfl, hv, hg⟩
            exact hK _ _ hg hv
          refine ⟨fun a_ wx hR hD K hK => ?_, ?_⟩
          · have hG : Grew wr wx := (Grew.drew _).trans hR
            simp [Deps, Dep, at_, Is] at hD
            obtain ⟨hd0, hd1⟩ := hD
            go_simp
            exact hK _ _ (Grew.refl _) rfl
          refine ⟨fun a_ wx hR hD K hK => ?_, ?_⟩
          · have hG : Grew wr wx := (Grew.drew _).trans hR
            simp [Deps, Dep, at_, Is] at hD
            go_simp
            exact hK _ _ (Grew.refl _) rfl
          refine ⟨fun a_ wx hR hD K hK => ?_, ?_⟩
          · have hG : Grew wr wx := (Grew.drew _).trans hR
            simp [Deps, Dep, at_, Is] at hD
            go_simp
            exact hK _ _ (Grew.refl _) rfl
          refine ⟨fun a_ wx hR hD K hK => ?_, ?_⟩
          · have hG : Grew wr wx := (Grew.drew _).trans hR
            simp [Deps, Dep, at_, Is] at hD
            obtain ⟨hd0, hd1⟩ := hD
            go_simp
            exact hK _ _ (Grew.refl _) rfl
          refine ⟨fun a_ wx hR hD K hK => ?_, ?_⟩
          · have hG : Grew wr wx := (Grew.drew _).trans hR
            simp [Deps, Dep, at_, Is] at hD
            have e_ := pw_cell_below hG C15.out
            go_simp
            exact hK _ _ (Grew.refl _) rfl
          refine ⟨fun a_ wx hR hD K hK => ?_, ?_⟩
          · have hG : Grew wr wx := (Grew.drew _).trans hR
            simp [Deps, Dep, at_, Is] at hD
            go_simp
            exact hK _ _ (Grew.refl _) rfl
          trivial
        · show EndHold _ _ _ _ _ _ _
          refine end_all (xs := [_, _, _, _, _, _, _, _, _, _, _, _, _, _, _, _]) ⟨rfl, rfl, rfl, rfl, rfl, rfl, rfl, rfl, rfl, rfl, rfl, rfl, rfl, rfl, rfl, rfl, trivial⟩ ?_
          rintro w5 hR1 -
          refine ⟨?_⟩
          have hG_w5 : Grew wr w5 := (Grew.drew _).trans hR1
          clear hR1
          simp only [Act.put, List.setIfInBounds_toArray, List.set_cons_succ, List.set_cons_zero, dropN, putEach]
          go_wp2_with fail
          have C2' := Lib.hid (pw_cell_below hG_w5 C2.out)
          have g1 := shr_10 x2
          have g2 := xor_w (rotW_lt 17 b2) (rotW_lt 19 b2)
          have g3 := xor_w (xorW_lt (rotW_lt 17 b2) (rotW_lt 19 b2)) (shrW_lt 10 b2)
          apply region_grew [Is _, Is _, Is _, Is _, Is _, Is _, Is _, Is _, Is _, Is _, Is _, Is _, Is _, Is _, Is _, Is _] [([(8, none)], none), ([(70, some 0)], none), ([(7, none), (71, some 1)], none), ([(72, some 2)], none), ([(73, some 3)], none), ([(8, none)], none), ([(75, some 5)], none), ([(7, none), (76, some 6)], none), ([(77, some 7)], none), ([(78, some 8)], none), ([(74, some 4), (79, some 9)], none), ([(8, none)], none), ([(81, some 11)], none), ([(7, none), (82, some 12)], none), ([(83, some 13)], none), ([(84, some 14)], none)] [(70, 0), (71, 1), (72, 2), (73, 3), (74, 4), (75, 5), (76, 6), (77, 7), (78, 8), (79, 9), (80, 10), (81, 11), (82, 12), (83, 13), (84, 14), (85, 15)] rfl (by kernel_rfl) (by kernel_rfl) (show Stable Grew _ from ⟨Is.stable _, Is.stable _, Is.stable _, Is.stable _, Is.stable _, Is.stable _, Is.stable _, Is.stable _, Is.stable _, Is.stable _, Is.stable _, Is.stable _, Is.stable _, Is.stable _, Is.stable _, Is.stable _, trivial⟩)
          · show OpsHold _ _ _ _ _ _ _ _ _
            refine ⟨fun a_ wx hR hD K hK => ?_, ?_⟩
            · have hG : Grew w5 wx := (Grew.drew _).trans hR
              simp [Deps, Dep, at_, Is] at hD
              go_simp
              exact hK _ _ (Grew.refl _) rfl
            refine ⟨fun a_ wx hR hD K hK => ?_, ?_⟩
            · have hG : Grew w5 wx := (Grew.drew _).trans hR
              simp [Deps, Dep, at_, Is] at hD
              go_simp
              exact hK _ _ (Grew.refl _) rfl
            refine ⟨fun a_ wx hR hD K hK => ?_, ?_⟩
            · have hG : Grew w5 wx := (Grew.drew _).trans hR
              simp [Deps, Dep, at_, Is] at hD
              obtain ⟨hd0, hd1⟩ := hD
              go_simp
              exact hK _ _ (Grew.refl _) rfl
            refine ⟨fun a_ wx hR hD K hK => ?_, ?_⟩
            · have hG : Grew w5 wx := (Grew.drew _).trans hR
              simp [Deps, Dep, at_, Is] at hD
              have e_ := pw_cell_below hG C2'.out
              go_simp
              exact hK _ _ (Grew.refl _) rfl
            refine ⟨fun a_ wx hR hD K hK => ?_, ?_⟩
            · have hG : Grew w5 wx := (Grew.drew _).trans hR
              simp [Deps, Dep, at_, Is] at hD
              go_simp
              have hcn := turn_n x2 17 17 rfl b2 (by omega) (by omega) wx
              with_reducible refine hcn.mono ?_
              clear hcn
              rintro e wy ⟨v, rfl, hv, hg⟩
              exact hK _ _ hg hv
            refine ⟨fun a_ wx hR hD K hK => ?_, ?_⟩
            · have hG : Grew w5 wx := (Grew.drew _).trans hR
              simp [Deps, Dep, at_, Is] at hD
              go_simp
              exact hK _ _ (Grew.refl _) rfl
            refine ⟨fun a_ wx hR hD K hK => ?_, ?_⟩
            · have hG : Grew w5 wx := (Grew.drew _).trans hR
              simp [Deps, Dep, at_, Is] at hD
              go_simp
              exact hK _ _ (Grew.refl _) rfl
            refine ⟨fun a_ wx hR hD K hK => ?_, ?_⟩
            · have hG : Grew w5 wx := (Grew.drew _).trans hR
              simp [Deps, Dep, at_, Is] at hD
              obtain ⟨hd0, hd1⟩ := hD
              go_simp
              exact hK _ _ (Grew.refl _) rfl
            refine ⟨fun a_ wx hR hD K hK => ?_, ?_⟩
            · have hG : Grew w5 wx := (Grew.drew _).trans hR
              simp [Deps, Dep, at_, Is] at hD
              have e_ := pw_cell_below hG C2'.out
              go_simp
              exact hK _ _ (Grew.refl _) rfl
            refine ⟨fun a_ wx hR hD K hK => ?_, ?_⟩
            · have hG : Grew w5 wx := (Grew.drew _).trans hR
              simp [Deps, Dep, at_, Is] at hD
              go_simp
              have hcn := turn_n x2 19 19 rfl b2 (by omega) (by omega) wx
              with_reducible refine hcn.mono ?_
              clear hcn
              rintro e wy ⟨v, rfl, hv, hg⟩
              exact hK _ _ hg hv
            refine ⟨fun a_ wx hR hD K hK => ?_, ?_⟩
            · have hG : Grew w5 wx := (Grew.drew _).trans hR
              simp [Deps, Dep, at_, Is] at hD
              obtain ⟨hd0, hd1⟩ := hD
              go_simp
              exact hK _ _ (Grew.refl _) rfl
            refine ⟨fun a_ wx hR hD K hK => ?_, ?_⟩
            · have hG : Grew w5 wx := (Grew.drew _).trans hR
              simp [Deps, Dep, at_, Is] at hD
              go_simp
              exact hK _ _ (Grew.refl _) rfl
            refine ⟨fun a_ wx hR hD K hK => ?_, ?_⟩
            · have hG : Grew w5 wx := (Grew.drew _).trans hR
              simp [Deps, Dep, at_, Is] at hD
              go_simp
              exact hK _ _ (Grew.refl _) rfl
            refine ⟨fun a_ wx hR hD K hK => ?_, ?_⟩
            · have hG : Grew w5 wx := (Grew.drew _).trans hR
              simp [Deps, Dep, at_, Is] at hD
              obtain ⟨hd0, hd1⟩ := hD
              go_simp
              exact hK _ _ (Grew.refl _) rfl
            refine ⟨fun a_ wx hR hD K hK => ?_, ?_⟩
            · have hG : Grew w5 wx := (Grew.drew _).trans hR
              simp [Deps, Dep, at_, Is] at hD
              have e_ := pw_cell_below hG C2'.out
              go_simp
              exact hK _ _ (Grew.refl _) rfl
            refine ⟨fun a_ wx hR hD K hK => ?_, ?_⟩
            · have hG : Grew w5 wx := (Grew.drew _).trans hR
              simp [Deps, Dep, at_, Is] at hD
              go_simp
              exact hK _ _ (Grew.refl _) rfl
            trivial
          · show EndHold _ _ _ _ _ _ _
            refine end_all (xs := [_, _, _, _, _, _, _, _, _, _, _, _, _, _, _, _]) ⟨rfl, rfl, rfl, rfl, rfl, rfl, rfl, rfl, rfl, rfl, rfl, rfl, rfl, rfl, rfl, rfl, trivial⟩ ?_
            rintro w6 hR1 -
            refine ⟨?_⟩
            have hG_w6 : Grew w5 w6 := (Grew.drew _).trans hR1
            clear hR1
            simp only [Act.put, List.setIfInBounds_toArray, List.set_cons_succ, List.set_cons_zero, dropN, putEach]
            go_wp2_with fail
            have C16' := Lib.hid (pw_cell_below (hG_w5.trans hG_w6) C16.out)
            have C7' := Lib.hid (pw_cell_below (hG_w5.trans hG_w6) C7.out)
            have a1 := add_w x16 x7
            have a2 := add_w (addW x16 x7) (xorW (xorW (rotW x15 7) (rotW x15 18)) (shrW x15 3))
            have a3 := add_w (addW (addW x16 x7) (xorW (xorW (rotW x15 7) (rotW x15 18)) (shrW x15 3))) (xorW (xorW (rotW x2 17) (rotW x2 19)) (shrW x2 10))
            apply region_grew [Is _, Is _, Is _, Is _, Is _, Is _, Is _, Is _, Is _, Is _, Is _, Is _, Is _, Is _] [([(8, none)], none), ([(8, none)], none), ([(88, some 1)], none), ([(7, none), (89, some 2)], none), ([(90, some 3)], none), ([(8, none)], none), ([(92, some 5)], none), ([(7, none), (93, some 6)], none), ([(94, some 7)], none), ([(91, some 4), (95, some 8)], none), ([(11, none)], none), ([(96, some 9), (97, some 10)], none), ([(12, none)], none), ([(98, some 11), (99, some 12)], none)] [(87, 0), (88, 1), (89, 2), (90, 3), (91, 4), (92, 5), (93, 6), (94, 7), (95, 8), (96, 9), (97, 10), (98, 11), (99, 12), (100, 13)] rfl (by kernel_rfl) (by kernel_rfl) (show Stable Grew _ from ⟨Is.stable _, Is.stable _, Is.stable _, Is.stable _, Is.stable _, Is.stable _, Is.stable _, Is.stable _, Is.stable _, Is.stable _, Is.stable _, Is.stable _, Is.stable _, Is.stable _, trivial⟩)
            · show OpsHold _ _ _ _ _ _ _ _ _
              refine ⟨fun a_ wx hR hD K hK => ?_, ?_⟩
              · have hG : Grew w6 wx := (Grew.drew _).trans hR
                simp [Deps, Dep, at_, Is] at hD
                go_simp
                exact hK _ _ (Grew.refl _) rfl
              refine ⟨fun a_ wx hR hD K hK => ?_, ?_⟩
              · have hG : Grew w6 wx := (Grew.drew _).trans hR
                simp [Deps, Dep, at_, Is] at hD
                go_simp
                exact hK _ _ (Grew.refl _) rfl
              refine ⟨fun a_ wx hR hD K hK => ?_, ?_⟩
              · have hG : Grew w6 wx := (Grew.drew _).trans hR
                simp [Deps, Dep, at_, Is] at hD
                go_simp
                exact hK _ _ (Grew.refl _) rfl
              refine ⟨fun a_ wx hR hD K hK => ?_, ?_⟩
              · have hG : Grew w6 wx := (Grew.drew _).trans hR
                simp [Deps, Dep, at_, Is] at hD
                obtain ⟨hd0, hd1⟩ := hD
                go_simp
                exact hK _ _ (Grew.refl _) rfl
              refine ⟨fun a_ wx hR hD K hK => ?_, ?_⟩
              · have hG : Grew w6 wx := (Grew.drew _).trans hR
                simp [Deps, Dep, at_, Is] at hD
                have e_ := pw_cell_below hG C16'.out
                go_simp
                exact hK _ _ (Grew.refl _) rfl
              refine ⟨fun a_ wx hR hD K hK => ?_, ?_⟩
              · have hG : Grew w6 wx := (Grew.drew _).trans hR
                simp [Deps, Dep, at_, Is] at hD
                go_simp
                exact hK _ _ (Grew.refl _) rfl
              refine ⟨fun a_ wx hR hD K hK => ?_, ?_⟩
              · have hG : Grew w6 wx := (Grew.drew _).trans hR
                simp [Deps, Dep, at_, Is] at hD
                go_simp
                exact hK _ _ (Grew.refl _) rfl
              refine ⟨fun a_ wx hR hD K hK => ?_, ?_⟩
              · have hG : Grew w6 wx := (Grew.drew _).trans hR
                simp [Deps, Dep, at_, Is] at hD
                obtain ⟨hd0, hd1⟩ := hD
                go_simp
                exact hK _ _ (Grew.refl _) rfl
              refine ⟨fun a_ wx hR hD K hK => ?_, ?_⟩
              · have hG : Grew w6 wx := (Grew.drew _).trans hR
                simp [Deps, Dep, at_, Is] at hD
                have e_ := pw_cell_below hG C7'.out
                go_simp
                exact hK _ _ (Grew.refl _) rfl
              refine ⟨fun a_ wx hR hD K hK => ?_, ?_⟩
              · have hG : Grew w6 wx := (Grew.drew _).trans hR
                simp [Deps, Dep, at_, Is] at hD
                obtain ⟨hd0, hd1⟩ := hD
                go_simp
                exact hK _ _ (Grew.refl _) rfl
              refine ⟨fun a_ wx hR hD K hK => ?_, ?_⟩
              · have hG : Grew w6 wx := (Grew.drew _).trans hR
                simp [Deps, Dep, at_, Is] at hD
                go_simp
                exact hK _ _ (Grew.refl _) rfl
              refine ⟨fun a_ wx hR hD K hK => ?_, ?_⟩
              · have hG : Grew w6 wx := (Grew.drew _).trans hR
                simp [Deps, Dep, at_, Is] at hD
                obtain ⟨hd0, hd1⟩ := hD
                go_simp
                exact hK _ _ (Grew.refl _) rfl
              refine ⟨fun a_ wx hR hD K hK => ?_, ?_⟩
              · have hG : Grew w6 wx := (Grew.drew _).trans hR
                simp [Deps, Dep, at_, Is] at hD
                go_simp
                exact hK _ _ (Grew.refl _) rfl
              refine ⟨fun a_ wx hR hD K hK => ?_, ?_⟩
              · have hG : Grew w6 wx := (Grew.drew _).trans hR
                simp [Deps, Dep, at_, Is] at hD
                obtain ⟨hd0, hd1⟩ := hD
                go_simp
                exact hK _ _ (Grew.refl _) rfl
              trivial
            · show EndHold _ _ _ _ _ _ _
              refine end_all (xs := [_, _, _, _, _, _, _, _, _, _, _, _, _, _]) ⟨rfl, rfl, rfl, rfl, rfl, rfl, rfl, rfl, rfl, rfl, rfl, rfl, rfl, rfl, trivial⟩ ?_
              rintro w7 hR1 -
              refine ⟨?_⟩
              have hG_w7 : Grew w6 w7 := (Grew.drew _).trans hR1
              clear hR1
              simp only [Act.put, List.setIfInBounds_toArray, List.set_cons_succ, List.set_cons_zero, dropN, putEach]
              have HM7 := Lib.hid (HM.out.grew ((hG_w5.trans hG_w6).trans hG_w7))
              have c1 := HM7.out.b2.at_ t
              rw [cells_get _ _ (by rw [arr_len _ (by rw [ws_len]; omega)]; omega)] at c1
              have c2 := HM7.out.b2.fz t
              go_wp2_with fail
              go_roundw
              case rel =>
                refine ⟨t + 1, by go_num, by omega, ?_⟩
                have h := HM7.out.set2 t (addW (addW (addW x16 x7) (sg0 x15)) (sg1 x2))
                rw [← HN.out] at h
                have hx4 : (arr64 (ws l t)).set t (wnext (ws l t) t) = arr64 (ws l (t + 1)) := by
                  have := arr_setN (ws l t) (by rw [ws_len]; omega) (wnext (ws l t) t)
                  rw [ws_len] at this
                  rw [this]; simp only [ws]; rw [if_neg h16]
                rw [hx4, HN.out] at h
                exact h
              case measure => simp [intOf]; omega
    · have d1 : decide ((t : Int) < 64) = false := decide_eq_false (by omega)
      obtain rfl : t = 64 := by omega
      have hx64 : (arr64 (ws l 64)) = ws l 64 := by unfold arr64; rw [ws_len]; simp
      rw [hx64] at hm
      have hxl := ws_len l 64
      have hxw := ws_words hlb 64
      obtain ⟨x, hx⟩ : ∃ x, x = ws l 64 := ⟨_, rfl⟩
      rw [← hx] at hm hxl hxw
      have hok := St.of_ok hsw
      have D0 := hm.b0.at_ 0
      have D1 := hm.b0.at_ 1
      have D2 := hm.b0.at_ 2
      have D3 := hm.b0.at_ 3
      have D4 := hm.b0.at_ 4
      have D5 := hm.b0.at_ 5
      have D6 := hm.b0.at_ 6
      have D7 := hm.b0.at_ 7
      rw [cells_get _ _ (by omega)] at D0 D1 D2 D3 D4 D5 D6 D7
      obtain ⟨S0, hS0⟩ : ∃ S0, S0 = St.of s := ⟨_, rfl⟩
      rw [show s.getD 0 0 = S0.a from by rw [hS0]; rfl] at D0
      rw [show s.getD 1 0 = S0.b from by rw [hS0]; rfl] at D1
      rw [show s.getD 2 0 = S0.c from by rw [hS0]; rfl] at D2
      rw [show s.getD 3 0 = S0.d from by rw [hS0]; rfl] at D3
      rw [show s.getD 4 0 = S0.e from by rw [hS0]; rfl] at D4
      rw [show s.getD 5 0 = S0.f from by rw [hS0]; rfl] at D5
      rw [show s.getD 6 0 = S0.g from by rw [hS0]; rfl] at D6
      rw [show s.getD 7 0 = S0.h from by rw [hS0]; rfl] at D7
      rw [← hS0] at hok
      have HM := Lib.hid hm
      have D0 := Lib.hid D0
      have D1 := Lib.hid D1
      have D2 := Lib.hid D2
      have D3 := Lib.hid D3
      have D4 := Lib.hid D4
      have D5 := Lib.hid D5
      have D6 := Lib.hid D6
      have D7 := Lib.hid D7
      have HX := Lib.hid hx
      have HS := Lib.hid hS0
      have HXL := Lib.hid hxl
      have HK := Lib.hid hk
      have HKL := Lib.hid hkl
      have HSL := Lib.hid hsl
      clear hm hx hS0 hxl hk hkl hx64 hsl hl
      go_wp2_with fail
      apply region_grew [Is _, Is _, Is _, Is _, Is _, Is _, Is _, Is _, Is _, Is _, Is _, Is _, Is _, Is _, Is _, Is _, Is _, Is _, Is _, Is _, Is _, Is _, Is _] [([(4, none)], none), ([(103, some 0)], none), ([(4, none)], none), ([(105, some 2)], none), ([(4, none)], none), ([(107, some 4)], none), ([(4, none)], none), ([(109, some 6)], none), ([(4, none)], none), ([(111, some 8)], none), ([(4, none)], none), ([(113, some 10)], none), ([(4, none)], none), ([(115, some 12)], none), ([(4, none)], none), ([(117, some 14)], none), ([(104, some 1)], none), ([(106, some 3)], none), ([(108, some 5)], none), ([(110, some 7)], none), ([(112, some 9)], none), ([(114, some 11)], none), ([(116, some 13)], none)] [(13, 16), (14, 17), (15, 18), (16, 19), (17, 20), (18, 21), (19, 22), (103, 0), (104, 1), (105, 2), (106, 3), (107, 4), (108, 5), (109, 6), (110, 7), (111, 8), (112, 9), (113, 10), (114, 11), (115, 12), (116, 13), (117, 14), (118, 15)] rfl (by kernel_rfl) (by kernel_rfl) (show Stable Grew _ from ⟨Is.stable _, Is.stable _, Is.stable _, Is.stable _, Is.stable _, Is.stable _, Is.stable _, Is.stable _, Is.stable _, Is.stable _, Is.stable _, Is.stable _, Is.stable _, Is.stable _, Is.stable _, Is.stable _, Is.stable _, Is.stable _, Is.stable _, Is.stable _, Is.stable _, Is.stable _, Is.stable _, trivial⟩)
      · show OpsHold _ _ _ _ _ _ _ _ _
        refine ⟨fun a_ wx hR hD K hK => ?_, ?_⟩
        · have hG : Grew wr wx := (Grew.drew _).trans hR
          simp [Deps, Dep, at_, Is] at hD
          go_simp
          exact hK _ _ (Grew.refl _) rfl
        refine ⟨fun a_ wx hR hD K hK => ?_, ?_⟩
        · have hG : Grew wr wx := (Grew.drew _).trans hR
          simp [Deps, Dep, at_, Is] at hD
          have e_ := pw_cell_below hG D0.out
          go_simp
          exact hK _ _ (Grew.refl _) rfl
        refine ⟨fun a_ wx hR hD K hK => ?_, ?_⟩
        · have hG : Grew wr wx := (Grew.drew _).trans hR
          simp [Deps, Dep, at_, Is] at hD
          go_simp
          exact hK _ _ (Grew.refl _) rfl
        refine ⟨fun a_ wx hR hD K hK => ?_, ?_⟩
        · have hG : Grew wr wx := (Grew.drew _).trans hR
          simp [Deps, Dep, at_, Is] at hD
          have e_ := pw_cell_below hG D1.out
          go_simp
          exact hK _ _ (Grew.refl _) rfl
        refine ⟨fun a_ wx hR hD K hK => ?_, ?_⟩
        · have hG : Grew wr wx := (Grew.drew _).trans hR
          simp [Deps, Dep, at_, Is] at hD
          go_simp
          exact hK _ _ (Grew.refl _) rfl
        refine ⟨fun a_ wx hR hD K hK => ?_, ?_⟩
        · have hG : Grew wr wx := (Grew.drew _).trans hR
          simp [Deps, Dep, at_, Is] at hD
          have e_ := pw_cell_below hG D2.out
          go_simp
          exact hK _ _ (Grew.refl _) rfl
        refine ⟨fun a_ wx hR hD K hK => ?_, ?_⟩
        · have hG : Grew wr wx := (Grew.drew _).trans hR
          simp [Deps, Dep, at_, Is] at hD
          go_simp
          exact hK _ _ (Grew.refl _) rfl
        refine ⟨fun a_ wx hR hD K hK => ?_, ?_⟩
        · have hG : Grew wr wx := (Grew.drew _).trans hR
          simp [Deps, Dep, at_, Is] at hD
          have e_ := pw_cell_below hG D3.out
          go_simp
          exact hK _ _ (Grew.refl _) rfl
        refine ⟨fun a_ wx hR hD K hK => ?_, ?_⟩
        · have hG : Grew wr wx := (Grew.drew _).trans hR
          simp [Deps, Dep, at_, Is] at hD
          go_simp
          exact hK _ _ (Grew.refl _) rfl
        refine ⟨fun a_ wx hR hD K hK => ?_, ?_⟩
        · have hG : Grew wr wx := (Grew.drew _).trans hR
          simp [Deps, Dep, at_, Is] at hD
          have e_ := pw_cell_below hG D4.out
          go_simp
          exact hK _ _ (Grew.refl _) rfl
        refine ⟨fun a_ wx hR hD K hK => ?_, ?_⟩
        · have hG : Grew wr wx := (Grew.drew _).trans hR
          simp [Deps, Dep, at_, Is] at hD
          go_simp
          exact hK _ _ (Grew.refl _) rfl
        refine ⟨fun a_ wx hR hD K hK => ?_, ?_⟩
        · have hG : Grew wr wx := (Grew.drew _).trans hR
          simp [Deps, Dep, at_, Is] at hD
          have e_ := pw_cell_below hG D5.out
          go_simp
          exact hK _ _ (Grew.refl _) rfl
        refine ⟨fun a_ wx hR hD K hK => ?_, ?_⟩
        · have hG : Grew wr wx := (Grew.drew _).trans hR
          simp [Deps, Dep, at_, Is] at hD
          go_simp
          exact hK _ _ (Grew.refl _) rfl
        refine ⟨fun a_ wx hR hD K hK => ?_, ?_⟩
        · have hG : Grew wr wx := (Grew.drew _).trans hR
          simp [Deps, Dep, at_, Is] at hD
          have e_ := pw_cell_below hG D6.out
          go_simp
          exact hK _ _ (Grew.refl _) rfl
        refine ⟨fun a_ wx hR hD K hK => ?_, ?_⟩
        · have hG : Grew wr wx := (Grew.drew _).trans hR
          simp [Deps, Dep, at_, Is] at hD
          go_simp
          exact hK _ _ (Grew.refl _) rfl
        refine ⟨fun a_ wx hR hD K hK => ?_, ?_⟩
        · have hG : Grew wr wx := (Grew.drew _).trans hR
          simp [Deps, Dep, at_, Is] at hD
          have e_ := pw_cell_below hG D7.out
          go_simp
          exact hK _ _ (Grew.refl _) rfl
        refine ⟨fun a_ wx hR hD K hK => ?_, ?_⟩
        · have hG : Grew wr wx := (Grew.drew _).trans hR
          simp [Deps, Dep, at_, Is] at hD
          go_simp
          exact hK _ _ (Grew.refl _) rfl
        refine ⟨fun a_ wx hR hD K hK => ?_, ?_⟩
        · have hG : Grew wr wx := (Grew.drew _).trans hR
          simp [Deps, Dep, at_, Is] at hD
          go_simp
          exact hK _ _ (Grew.refl _) rfl
        refine ⟨fun a_ wx hR hD K hK => ?_, ?_⟩
        · have hG : Grew wr wx := (Grew.drew _).trans hR
          simp [Deps, Dep, at_, Is] at hD
          go_simp
          exact hK _ _ (Grew.refl _) rfl
        refine ⟨fun a_ wx hR hD K hK => ?_, ?_⟩
        · have hG : Grew wr wx := (Grew.drew _).trans hR
          simp [Deps, Dep, at_, Is] at hD
          go_simp
          exact hK _ _ (Grew.refl _) rfl
        refine ⟨fun a_ wx hR hD K hK => ?_, ?_⟩
        · have hG : Grew wr wx := (Grew.drew _).trans hR
          simp [Deps, Dep, at_, Is] at hD
          go_simp
          exact hK _ _ (Grew.refl _) rfl
        refine ⟨fun a_ wx hR hD K hK => ?_, ?_⟩
        · have hG : Grew wr wx := (Grew.drew _).trans hR
          simp [Deps, Dep, at_, Is] at hD
          go_simp
          exact hK _ _ (Grew.refl _) rfl
        refine ⟨fun a_ wx hR hD K hK => ?_, ?_⟩
        · have hG : Grew wr wx := (Grew.drew _).trans hR
          simp [Deps, Dep, at_, Is] at hD
          go_simp
          exact hK _ _ (Grew.refl _) rfl
        trivial
      · show EndHold _ _ _ _ _ _ _
        refine end_all (xs := [_, _, _, _, _, _, _, _, _, _, _, _, _, _, _, _, _, _, _, _, _, _, _]) ⟨rfl, rfl, rfl, rfl, rfl, rfl, rfl, rfl, rfl, rfl, rfl, rfl, rfl, rfl, rfl, rfl, rfl, rfl, rfl, rfl, rfl, rfl, rfl, trivial⟩ ?_
        rintro w5 hR1 -
        refine ⟨?_⟩
        have hG_w5 : Grew wr w5 := (Grew.drew _).trans hR1
        clear hR1
        simp only [Act.put, List.setIfInBounds_toArray, List.set_cons_succ, List.set_cons_zero, dropN, putEach]
        go_wp2_with fail
        have hm1 := HM.out.grew hG_w5
        clear D0 D1 D2 D3 D4 D5 D6 D7 HM
        rw [show ((64 : Nat) : Int) = 64 from rfl]
        go_loopw [13, 14, 15, 16, 17, 18, 19, 20, 119] (fun va vb vc vd ve vf vg vh iv wq => ∃ t : Nat, iv = .int .i64 (t : Int) ∧ t ≤ 64 ∧ va = .int .u32 ((rn ks x t S0).a : Int) ∧ vb = .int .u32 ((rn ks x t S0).b : Int) ∧ vc = .int .u32 ((rn ks x t S0).c : Int) ∧ vd = .int .u32 ((rn ks x t S0).d : Int) ∧ ve = .int .u32 ((rn ks x t S0).e : Int) ∧ vf = .int .u32 ((rn ks x t S0).f : Int) ∧ vg = .int .u32 ((rn ks x t S0).g : Int) ∧ vh = .int .u32 ((rn ks x t S0).h : Int) ∧ MixM w s x wq) (fun _ _ _ _ _ _ _ _ iv _ => 64 - (intOf iv).toNat)
        case atStart => exact ⟨0, rfl, by omega, rfl, rfl, rfl, rfl, rfl, rfl, rfl, rfl, hm1⟩
        case round =>
          obtain ⟨t, rfl, ht, rfl, rfl, rfl, rfl, rfl, rfl, rfl, rfl, hmq⟩ := hrel
          clear hm1 hG_w5
          by_cases hlt : t < 64
          · have d1 : decide ((t : Int) < 64) = true := decide_eq_true (by omega)
            have i1 : (t : Int) < 64 := by omega
            have hokt := rn_ok hok (ks := ks) (ws := x) t
            have hst : rn ks x (t + 1) S0 = rstep (ks.getD t 0) (x.getD t 0) (rn ks x t S0) := rfl
            have ck := pw_cell_below hmq.gr (HK.out t (by rw [HKL.out]; omega))
            have cx := hmq.b2.at_ t
            rw [cells_get _ _ (by rw [HXL.out]; omega)] at cx
            obtain ⟨k, hk⟩ : ∃ k, k = ks.getD t 0 := ⟨_, rfl⟩
            obtain ⟨y, hy⟩ : ∃ y, y = x.getD t 0 := ⟨_, rfl⟩
            rw [← hk] at ck hst
            rw [← hy] at cx hst
            obtain ⟨S, hS⟩ : ∃ S, S = rn ks x t S0 := ⟨_, rfl⟩
            rw [← hS] at hokt hst ⊢
            obtain ⟨a, b, c', d, e, f, g, hh⟩ := S
            obtain ⟨ba, bb, bc, bd, be, bf, bg, bh⟩ := hokt
            simp only [] at ba bb bc bd be bf bg bh ⊢
            have HST := Lib.hid hst
            have CK := Lib.hid ck
            have CX := Lib.hid cx
            have HM := Lib.hid hmq
            clear hst ck cx hmq hk hy hS
            have q1 := xor_w (rotW_lt 6 be) (rotW_lt 11 be)
            have q2 := xor_w (xorW_lt (rotW_lt 6 be) (rotW_lt 11 be)) (rotW_lt 25 be)
            have q3 := add_w hh (xorW (xorW (rotW e 6) (rotW e 11)) (rotW e 25))
            have q4 := and_w be bf
            have q0 := not_w be
            have q5 := and_w (notW_lt e) bg
            have q6 := xor_w (andW_lt f be) (andW_lt g (notW_lt e))
            obtain ⟨z1, hz1⟩ : ∃ z, z = addW hh (xorW (xorW (rotW e 6) (rotW e 11)) (rotW e 25)) := ⟨_, rfl⟩
            rw [← hz1] at q3
            obtain ⟨z2, hz2⟩ : ∃ z, z = xorW (andW e f) (andW (notW e) g) := ⟨_, rfl⟩
            rw [← hz2] at q6
            have q7 := add_w z1 z2
            have q8 := add_w (addW z1 z2) k
            have q9 := add_w (addW (addW z1 z2) k) y
            have HZ1 := Lib.hid hz1
            have HZ2 := Lib.hid hz2
            clear hz1 hz2
            go_wp2_with fail
            apply region_grew [Is _, Is _, Is _, Is _, Is _, Is _, Is _, Is _, Is _, Is _, Is _, Is _, Is _, Is _, Is _, Is _, Is _, Is _, Is _, Is _, Is _, Is _, Is _, Is _, Is _, Is _, Is _, Is _] [([(20, none)], none), ([(17, none)], none), ([(123, some 1)], none), ([(17, none)], none), ([(125, some 3)], none), ([(124, some 2), (126, some 4)], none), ([(17, none)], none), ([(128, some 6)], none), ([(127, some 5), (129, some 7)], none), ([(122, some 0), (130, some 8)], none), ([(17, none)], none), ([(18, none)], none), ([(132, some 10), (133, some 11)], none), ([(17, none)], none), ([(135, some 13)], none), ([(19, none)], none), ([(136, some 14), (137, some 15)], none), ([(134, some 12), (138, some 16)], none), ([(131, some 9), (139, some 17)], none), ([(0, none)], none), ([(21, none)], none), ([(141, some 19)], none), ([(143, some 21), (142, some 20)], none), ([(144, some 22)], none), ([(140, some 18), (145, some 23)], none), ([(21, none)], none), ([(7, none), (147, some 25)], none), ([(148, some 26)], none)] [(122, 0), (123, 1), (124, 2), (125, 3), (126, 4), (127, 5), (128, 6), (129, 7), (130, 8), (131, 9), (132, 10), (133, 11), (134, 12), (135, 13), (136, 14), (137, 15), (138, 16), (139, 17), (140, 18), (141, 19), (142, 20), (143, 21), (144, 22), (145, 23), (146, 24), (147, 25), (148, 26), (149, 27)] rfl (by kernel_rfl) (by kernel_rfl) (show Stable Grew _ from ⟨Is.stable _, Is.stable _, Is.stable _, Is.stable _, Is.stable _, Is.stable _, Is.stable _, Is.stable _, Is.stable _, Is.stable _, Is.stable _, Is.stable _, Is.stable _, Is.stable _, Is.stable _, Is.stable _, Is.stable _, Is.stable _, Is.stable _, Is.stable _, Is.stable _, Is.stable _, Is.stable _, Is.stable _, Is.stable _, Is.stable _, Is.stable _, Is.stable _, trivial⟩)
            · show OpsHold _ _ _ _ _ _ _ _ _
              refine ⟨fun a_ wx hR hD K hK => ?_, ?_⟩
              · have hG : Grew wr wx := (Grew.drew _).trans hR
                simp [Deps, Dep, at_, Is] at hD
                go_simp
                exact hK _ _ (Grew.refl _) rfl
              refine ⟨fun a_ wx hR hD K hK => ?_, ?_⟩
              · have hG : Grew wr wx := (Grew.drew _).trans hR
                simp [Deps, Dep, at_, Is] at hD
                go_simp
                exact hK _ _ (Grew.refl _) rfl
              refine ⟨fun a_ wx hR hD K hK => ?_, ?_⟩
              · have hG : Grew wr wx := (Grew.drew _).trans hR
                simp [Deps, Dep, at_, Is] at hD
                go_simp
                have hcn := turn_n e 6 6 rfl be (by omega) (by omega) wx
                with_reducible refine hcn.mono ?_
                clear hcn
                rintro e wy ⟨v, rfl, hv, hg⟩
                exact hK _ _ hg hv
              refine ⟨fun a_ wx hR hD K hK => ?_, ?_⟩
              · have hG : Grew wr wx := (Grew.drew _).trans hR
                simp [Deps, Dep, at_, Is] at hD
                go_simp
                exact hK _ _ (Grew.refl _) rfl
              refine ⟨fun a_ wx hR hD K hK => ?_, ?_⟩
              · have hG : Grew wr wx := (Grew.drew _).trans hR
                simp [Deps, Dep, at_, Is] at hD
                go_simp
                have hcn := turn_n e 11 11 rfl be (by omega) (by omega) wx
                with_reducible refine hcn.mono ?_
                clear hcn
                rintro e wy ⟨v, rfl, hv, hg⟩
                exact hK _ _ hg hv
              refine ⟨fun a_ wx hR hD K hK => ?_, ?_⟩
              · have hG : Grew wr wx := (Grew.drew _).trans hR
                simp [Deps, Dep, at_, Is] at hD
                obtain ⟨hd0, hd1⟩ := hD
                go_simp
                exact hK _ _ (Grew.refl _) rfl
              refine ⟨fun a_ wx hR hD K hK => ?_, ?_⟩
              · have hG : Grew wr wx := (Grew.drew _).trans hR
                simp [Deps, Dep, at_, Is] at hD
                go_simp
                exact hK _ _ (Grew.refl _) rfl
              refine ⟨fun a_ wx hR hD K hK => ?_, ?_⟩
              · have hG : Grew wr wx := (Grew.drew _).trans hR
                simp [Deps, Dep, at_, Is] at hD
                go_simp
                have hcn := turn_n e 25 25 rfl be (by omega) (by omega) wx
                with_reducible refine hcn.mono ?_
                clear hcn
                rintro e wy ⟨v, rfl, hv, hg⟩
                exact hK _ _ hg hv
              refine ⟨fun a_ wx hR hD K hK => ?_, ?_⟩
              · have hG : Grew wr wx := (Grew.drew _).trans hR
                simp [Deps, Dep, at_, Is] at hD
                obtain ⟨hd0, hd1⟩ := hD
                go_simp
                exact hK _ _ (Grew.refl _) rfl
              refine ⟨fun a_ wx hR hD K hK => ?_, ?_⟩
              · have hG : Grew wr wx := (Grew.drew _).trans hR
                simp [Deps, Dep, at_, Is] at hD
                obtain ⟨hd0, hd1⟩ := hD
                go_simp
                exact hK _ _ (Grew.refl _) rfl
              refine ⟨fun a_ wx hR hD K hK => ?_, ?_⟩
              · have hG : Grew wr wx := (Grew.drew _).trans hR
                simp [Deps, Dep, at_, Is] at hD
                go_simp
                exact hK _ _ (Grew.refl _) rfl
              refine ⟨fun a_ wx hR hD K hK => ?_, ?_⟩
              · have hG : Grew wr wx := (Grew.drew _).trans hR
                simp [Deps, Dep, at_, Is] at hD
                go_simp
                exact hK _ _ (Grew.refl _) rfl
              refine ⟨fun a_ wx hR hD K hK => ?_, ?_⟩
              · have hG : Grew wr wx := (Grew.drew _).trans hR
                simp [Deps, Dep, at_, Is] at hD
                obtain ⟨hd0, hd1⟩ := hD
                go_simp
                exact hK _ _ (Grew.refl _) rfl
              refine ⟨fun a_ wx hR hD K hK => ?_, ?_⟩
              · have hG : Grew wr wx := (Grew.drew _).trans hR
                simp [Deps, Dep, at_, Is] at hD
                go_simp
                exact hK _ _ (Grew.refl _) rfl
              refine ⟨fun a_ wx hR hD K hK => ?_, ?_⟩
              · have hG : Grew wr wx := (Grew.drew _).trans hR
                simp [Deps, Dep, at_, Is] at hD
                go_simp
                exact hK _ _ (Grew.refl _) rfl
              refine ⟨fun a_ wx hR hD K hK => ?_, ?_⟩
              · have hG : Grew wr wx := (Grew.drew _).trans hR
                simp [Deps, Dep, at_, Is] at hD
                go_simp
                exact hK _ _ (Grew.refl _) rfl
              refine ⟨fun a_ wx hR hD K hK => ?_, ?_⟩
              · have hG : Grew wr wx := (Grew.drew _).trans hR
                simp [Deps, Dep, at_, Is] at hD
                obtain ⟨hd0, hd1⟩ := hD
                go_simp
                exact hK _ _ (Grew.refl _) rfl
              refine ⟨fun a_ wx hR hD K hK => ?_, ?_⟩
              · have hG : Grew wr wx := (Grew.drew _).trans hR
                simp [Deps, Dep, at_, Is] at hD
                obtain ⟨hd0, hd1⟩ := hD
                go_simp
                exact hK _ _ (Grew.refl _) rfl
              refine ⟨fun a_ wx hR hD K hK => ?_, ?_⟩
              · have hG : Grew wr wx := (Grew.drew _).trans hR
                simp [Deps, Dep, at_, Is] at hD
                obtain ⟨hd0, hd1⟩ := hD
                go_simp
                exact hK _ _ (Grew.refl _) rfl
              refine ⟨fun a_ wx hR hD K hK => ?_, ?_⟩
              · have hG : Grew wr wx := (Grew.drew _).trans hR
                simp [Deps, Dep, at_, Is] at hD
                go_simp
                exact hK _ _ (Grew.refl _) rfl
              refine ⟨fun a_ wx hR hD K hK => ?_, ?_⟩
              · have hG : Grew wr wx := (Grew.drew _).trans hR
                simp [Deps, Dep, at_, Is] at hD
                go_simp
                exact hK _ _ (Grew.refl _) rfl
              refine ⟨fun a_ wx hR hD K hK => ?_, ?_⟩
              · have hG : Grew wr wx := (Grew.drew _).trans hR
                simp [Deps, Dep, at_, Is] at hD
                go_simp
                exact hK _ _ (Grew.refl _) rfl
              refine ⟨fun a_ wx hR hD K hK => ?_, ?_⟩
              · have hG : Grew wr wx := (Grew.drew _).trans hR
                simp [Deps, Dep, at_, Is] at hD
                obtain ⟨hd0, hd1⟩ := hD
                go_simp
                exact hK _ _ (Grew.refl _) rfl
              refine ⟨fun a_ wx hR hD K hK => ?_, ?_⟩
              · have hG : Grew wr wx := (Grew.drew _).trans hR
                simp [Deps, Dep, at_, Is] at hD
                have e_ := pw_cell_below hG CK.out
                go_simp
                exact hK _ _ (Grew.refl _) rfl
              refine ⟨fun a_ wx hR hD K hK => ?_, ?_⟩
              · have hG : Grew wr wx := (Grew.drew _).trans hR
                simp [Deps, Dep, at_, Is] at hD
                obtain ⟨hd0, hd1⟩ := hD
                go_simp
                exact hK _ _ (Grew.refl _) rfl
              refine ⟨fun a_ wx hR hD K hK => ?_, ?_⟩
              · have hG : Grew wr wx := (Grew.drew _).trans hR
                simp [Deps, Dep, at_, Is] at hD
                go_simp
                exact hK _ _ (Grew.refl _) rfl
              refine ⟨fun a_ wx hR hD K hK => ?_, ?_⟩
              · have hG : Grew wr wx := (Grew.drew _).trans hR
                simp [Deps, Dep, at_, Is] at hD
                obtain ⟨hd0, hd1⟩ := hD
                go_simp
                exact hK _ _ (Grew.refl _) rfl
              refine ⟨fun a_ wx hR hD K hK => ?_, ?_⟩
              · have hG : Grew wr wx := (Grew.drew _).trans hR
                simp [Deps, Dep, at_, Is] at hD
                have e_ := pw_cell_below hG CX.out
                go_simp
                exact hK _ _ (Grew.refl _) rfl
              trivial
            · show EndHold _ _ _ _ _ _ _
              refine end_all (xs := [_, _, _, _, _, _, _, _, _, _, _, _, _, _, _, _, _, _, _, _, _, _, _, _, _, _, _, _]) ⟨rfl, rfl, rfl, rfl, rfl, rfl, rfl, rfl, rfl, rfl, rfl, rfl, rfl, rfl, rfl, rfl, rfl, rfl, rfl, rfl, rfl, rfl, rfl, rfl, rfl, rfl, rfl, rfl, trivial⟩ ?_
              rintro w6 hR1 -
              refine ⟨?_⟩
              have hG_w6 : Grew wr w6 := (Grew.drew _).trans hR1
              clear hR1
              simp only [Act.put, List.setIfInBounds_toArray, List.set_cons_succ, List.set_cons_zero, dropN, putEach]
              go_wp2_with fail
              clear q0 q1 q2 q3 q4 q5 q6 q7 q8 q9 CK CX
              have r1 := xor_w (rotW_lt 2 ba) (rotW_lt 13 ba)
              have r2 := xor_w (xorW_lt (rotW_lt 2 ba) (rotW_lt 13 ba)) (rotW_lt 22 ba)
              have r3 := and_w ba bb
              have r4 := and_w ba bc
              have r5 := and_w bb bc
              have r6 := xor_w (andW_lt b ba) (andW_lt c' ba)
              have r7 := xor_w (xorW_lt (andW_lt b ba) (andW_lt c' ba)) (andW_lt c' bb)
              obtain ⟨y1, hy1⟩ : ∃ y, y = xorW (xorW (rotW a 2) (rotW a 13)) (rotW a 22) := ⟨_, rfl⟩
              obtain ⟨y2, hy2⟩ : ∃ y, y = xorW (xorW (andW a b) (andW a c')) (andW b c') := ⟨_, rfl⟩
              rw [← hy1] at r2
              rw [← hy2] at r7
              obtain ⟨u, hu⟩ : ∃ u, u = addW (addW (addW z1 z2) k) y := ⟨_, rfl⟩
              rw [show ((z1 : Int) + (z2 : Int) + (k : Int) + (y : Int)) % 4294967296 = (u : Int) from by rw [hu]; unfold addW; omega]
              have HU := Lib.hid (show u = uW ⟨a, b, c', d, e, f, g, hh⟩ k y from by rw [hu, HZ1.out, HZ2.out]; rfl)
              have HV := Lib.hid (show addW y1 y2 = vW ⟨a, b, c', d, e, f, g, hh⟩ from by rw [hy1, hy2]; rfl)
              have r8 := add_w y1 y2
              have r9 := add_w u (addW y1 y2)
              have r10 := add_w d u
              clear hu hy1 hy2 HZ1 HZ2
              refine (turn_c a 2 ba (by omega) (by omega) w6).mono ?_
              rintro e1 w7 ⟨_, rfl, rfl, hg7⟩
              go_wp2_with fail
              refine (turn_c a 13 ba (by omega) (by omega) w7).mono ?_
              rintro e1 w8 ⟨_, rfl, rfl, hg8⟩
              go_wp2_with fail
              refine (turn_c a 22 ba (by omega) (by omega) w8).mono ?_
              rintro e1 w9 ⟨_, rfl, rfl, hg9⟩
              go_wp2_with fail
              go_roundw
              case rel =>
                refine ⟨t + 1, by go_num, by omega, ?_, ?_, ?_, ?_, ?_, ?_, ?_, ?_, ((((HM.out.grew hG_w6).grew hg7).grew hg8).grew hg9)⟩
                · rw [HST.out]; show _ = Value.int .u32 ((addW (uW ⟨a, b, c', d, e, f, g, hh⟩ k y) (vW ⟨a, b, c', d, e, f, g, hh⟩) : Nat) : Int); rw [← HU.out, ← HV.out]
                · rw [HST.out]; rfl
                · rw [HST.out]; rfl
                · rw [HST.out]; rfl
                · rw [HST.out]; show _ = Value.int .u32 ((addW d (uW ⟨a, b, c', d, e, f, g, hh⟩ k y) : Nat) : Int); rw [← HU.out]
                · rw [HST.out]; rfl
                · rw [HST.out]; rfl
                · rw [HST.out]; rfl
              case measure => simp [intOf]; omega
          · have d1 : decide ((t : Int) < 64) = false := decide_eq_false (by omega)
            obtain rfl : t = 64 := by omega
            obtain ⟨S, hS⟩ : ∃ S, S = rn ks x 64 S0 := ⟨_, rfl⟩
            rw [← hS]
            have HS64 := Lib.hid hS
            have HM := Lib.hid hmq
            clear hS hmq
            obtain ⟨a, b, c', d, e, f, g, hh⟩ := S
            simp only []
            go_wp2_with fail
            obtain ⟨z, hz⟩ : ∃ z, z = (⟨a, b, c', d, e, f, g, hh⟩ : St).list := ⟨_, rfl⟩
            have hzl : z.length = 8 := by rw [hz]; rfl
            rw [show #[Value.int .u32 (a : Int), Value.int .u32 (b : Int), Value.int .u32 (c' : Int), Value.int .u32 (d : Int), Value.int .u32 (e : Int), Value.int .u32 (f : Int), Value.int .u32 (g : Int), Value.int .u32 (hh : Int)] = (wcells z).toArray from by rw [hz]; rfl]
            have HZ := Lib.hid hz
            have HZL := Lib.hid hzl
            clear hz hzl
            have hs0 : sumTo s z 0 = s := sumTo_0 s z HSL.out
            have hm2 : MixM w (sumTo s z 0) x wr := by rw [hs0]; exact HM.out
            clear hs0
            go_loopw [193] (fun iv wq => ∃ i : Nat, iv = .int .i64 (i : Int) ∧ i ≤ 8 ∧ MixM w (sumTo s z i) x wq) (fun iv _ => 8 - (intOf iv).toNat)
            case atStart => exact ⟨0, rfl, by omega, hm2⟩
            case round =>
              obtain ⟨i, rfl, hi, hmi⟩ := hrel
              clear hm2 HM
              by_cases hi8 : i < 8
              · have d1 : decide ((i : Int) < 8) = true := decide_eq_true (by omega)
                have i1 : (i : Int) < 8 := by omega
                have hg1 : (wcells z)[i]? = some (.int .u32 ((z.getD i 0 : Nat) : Int)) := cells_get z i (by rw [HZL.out]; omega)
                have hix := run_index_arr (P := Try.prog) wr 91 _ 8 (wcells z) .i64 i _ Try.underlying91 (fun _ => by rfl) (fun _ => by rfl) hi8 hg1
                have c1 := hmi.b0.at_ i
                rw [cells_get _ _ (by rw [sumTo_len]; omega), sumTo_at _ _ _ hi8] at c1
                have c2 := hmi.b0.fz i
                have q1 := add_w (s.getD i 0) (z.getD i 0)
                obtain ⟨si, hsi⟩ : ∃ si, si = s.getD i 0 := ⟨_, rfl⟩
                obtain ⟨zi, hzi⟩ : ∃ zi, zi = z.getD i 0 := ⟨_, rfl⟩
                rw [← hzi] at hix q1
                rw [← hsi] at c1 q1
                have HSI := Lib.hid hsi
                have HZI := Lib.hid hzi
                have HM := Lib.hid hmi
                clear hsi hzi hmi hg1
                go_wp2_with fail
                go_roundw
                case rel =>
                  refine ⟨i + 1, by go_num, by omega, ?_⟩
                  have h := HM.out.set0 i (addW si zi)
                  rw [HSI.out, HZI.out, sumTo_succ _ _ _ hi8] at h
                  rw [HSI.out, HZI.out]
                  exact h
                case measure => simp [intOf]; omega
              · have d1 : decide ((i : Int) < 8) = false := decide_eq_false (by omega)
                obtain rfl : i = 8 := by omega
                rw [show sumTo s z 8 = mixL ks s l from by rw [HZ.out, HS64.out, HX.out, HS.out]; rfl] at hmi
                have H0 := Lib.hid hmi.b0
                have H1 := Lib.hid hmi.b1
                have HG := Lib.hid hmi.gr
                clear hmi
                go_wp2_with (first
                  | refine wpList_load_blk H0.out (by rfl) 91 (.tmp 4) (by rfl) (by rfl) _ Try.underlying91 (by rfl) (by rw [wcells_len, mixL_len]; kernel_rfl) ?_
                  | refine wpList_store_blk (c := wcells (mixL ks s l)) H1.out (by rfl) 91 (.tmp 6) (.tmp 204) (by rfl) (by rfl) (by rfl) (by rw [wcells_len, mixL_len]; kernel_rfl) (by rw [wcells_len, wcells_len, mixL_len]; rfl) (wcells_one _) ?_)
                refine bodyPost_ret (results_blk rfl _ (H1.out.setRow (wcells (mixL ks s l))) _ (by rfl) Try.underlying91 (by rfl) (by rw [wcells_len, mixL_len]; kernel_rfl)) rfl ?_
                exact ⟨_, rfl, rfl, Grew.setRow HG.out (by omega) _⟩
end Go.Proofs.Ytimcafohmahapaa.F

-- ShaN
namespace Go.Proofs.Ytimcafohmahapaa.F
open Go Go.RowKit Go.Proofs.YtimcafohmahapaaW.PrintWords Go.Proofs.YtimcafohmahapaaW.PrintLast Go.Proofs.YtimcafohmahapaaW.PrintMore Go.Proofs.YtimcafohmahapaaR
attribute [local go_sem] max2_int min2_int max_two min_two
set_option linter.unusedSimpArgs false
set_option linter.unusedVariables false
set_option maxRecDepth 100000
theorem kL_words : words kL := by
  intro x hx
  unfold kL kAt at hx
  obtain ⟨p, -, rfl⟩ := List.mem_map.1 hx
  exact Nat.mod_lt _ (by omega)
/-- cells put one behind the other -/
def setL (cs : List Value) : Nat → List Value → List Value
  | _, [] => cs
  | o, v :: vs => setL (cs.set o v) (o + 1) vs
theorem Blk.setCells {g : Nat} {t : TypeId} : ∀ (vs : List Value) (o : Nat) {w : World} {cs : List Value}, Blk w g t cs → Blk (w.setCells g o vs) g t (setL cs o vs)
  | [], o, w, cs, h => h
  | v :: vs, o, w, cs, h => Blk.setCells vs (o + 1) (h.set o v)
theorem Upd.setCells {S : Nat → Prop} {a : World} {g : Nat} (hg : S g ∨ a.heap.size ≤ g) : ∀ (vs : List Value) (o : Nat) {b : World}, Upd S a b → Upd S a (b.setCells g o vs)
  | [], o, b, h => h
  | v :: vs, o, b, h => Upd.setCells hg vs (o + 1) (h.set hg v)
theorem setL_mid (a : List Value) : ∀ (vs b c : List Value), vs.length = b.length → setL (a ++ (b ++ c)) a.length vs = a ++ (vs ++ c)
  | [], b, c, h => by
    obtain rfl : b = [] := List.eq_nil_of_length_eq_zero h.symm
    rfl
  | v :: vs, [], c, h => by simp at h
  | v :: vs, x :: b, c, h => by
    show setL ((a ++ (x :: b ++ c)).set a.length v) (a.length + 1) vs = _
    rw [List.set_append_right _ _ (Nat.le_refl _), Nat.sub_self]
    have ih := setL_mid (a ++ [v]) vs b c (by simpa using h)
    rw [List.length_append] at ih
    simpa using ih
theorem Blk.range {w : World} {g : Nat} {t : TypeId} {a b c : List Value} (h : Blk w g t (a ++ (b ++ c))) : w.rangeAt g a.length b := fun j v hv => by
  rw [h.at_, List.getElem?_append_right (by omega), Nat.add_sub_cancel_left]
  rw [List.getElem?_append_left (List.getElem?_eq_some_iff.1 hv).1]
  exact hv
theorem Blk.there_ {w : World} {g : Nat} {t : TypeId} {a b c : List Value} (h : Blk w g t (a ++ (b ++ c))) : w.there g a.length b.length := fun j hj => by
  refine ⟨?_, h.fz _⟩
  rw [h.range j b[j] (List.getElem?_eq_getElem hj)]; rfl
/-- a Hash's cells -/
def hashC (ks s : List Nat) (rv : Value) (n : Nat) : List Value := wcells ks ++ (wcells s ++ [rv, .int .i64 (n : Int)])
theorem hashC_s {ks s : List Nat} {rv : Value} {n : Nat} (h1 : ks.length = 64) (h2 : s.length = 8) (i : Nat) (hi : i < 8) : (hashC ks s rv n)[64 + i]? = some (.int .u32 ((s.getD i 0 : Nat) : Int)) := by
  unfold hashC
  rw [List.getElem?_append_right (by rw [wcells_len]; omega), wcells_len, h1, Nat.add_sub_cancel_left, List.getElem?_append_left (by rw [wcells_len]; omega)]
  exact cells_get s i (by omega)
theorem hashC_rv {ks s : List Nat} {rv : Value} {n : Nat} (h1 : ks.length = 64) (h2 : s.length = 8) : (hashC ks s rv n)[72]? = some rv := by
  unfold hashC
  rw [List.getElem?_append_right (by rw [wcells_len]; omega), wcells_len, h1, List.getElem?_append_right (by rw [wcells_len]; omega), wcells_len, h2]; rfl
theorem hashC_n {ks s : List Nat} {rv : Value} {n : Nat} (h1 : ks.length = 64) (h2 : s.length = 8) : (hashC ks s rv n)[73]? = some (.int .i64 (n : Int)) := by
  unfold hashC
  rw [List.getElem?_append_right (by rw [wcells_len]; omega), wcells_len, h1, List.getElem?_append_right (by rw [wcells_len]; omega), wcells_len, h2]; rfl
theorem hashC_set_s {ks s : List Nat} {rv : Value} {n : Nat} (h1 : ks.length = 64) (i : Nat) (hi : i < s.length) (v : Nat) : (hashC ks s rv n).set (64 + i) (.int .u32 (v : Int)) = hashC ks (s.set i v) rv n := by
  unfold hashC
  rw [List.set_append_right _ _ (by rw [wcells_len]; omega), wcells_len, h1, Nat.add_sub_cancel_left, List.set_append_left _ _ (by rw [wcells_len]; omega), wcells_set]
theorem hashC_set_rv {ks s : List Nat} {rv : Value} {n : Nat} (h1 : ks.length = 64) (h2 : s.length = 8) (v : Value) : (hashC ks s rv n).set 72 v = hashC ks s v n := by
  unfold hashC
  rw [List.set_append_right _ _ (by rw [wcells_len]; omega), wcells_len, h1, List.set_append_right _ _ (by rw [wcells_len]; omega), wcells_len, h2]; rfl
theorem hashC_set_n {ks s : List Nat} {rv : Value} {n : Nat} (h1 : ks.length = 64) (h2 : s.length = 8) (m : Nat) : (hashC ks s rv n).set 73 (.int .i64 (m : Int)) = hashC ks s rv m := by
  unfold hashC
  rw [List.set_append_right _ _ (by rw [wcells_len]; omega), wcells_len, h1, List.set_append_right _ _ (by rw [wcells_len]; omega), wcells_len, h2]; rfl
theorem hashC_setL {ks s : List Nat} {rv : Value} {n : Nat} (h1 : ks.length = 64) (s' : List Nat) (h : s'.length = s.length) : setL (hashC ks s rv n) 64 (wcells s') = hashC ks s' rv n := by
  have e := setL_mid (wcells ks) (wcells s') (wcells s) [rv, .int .i64 (n : Int)] (by rw [wcells_len, wcells_len, h])
  rw [wcells_len, h1] at e
  exact e
/-- the square roots' words of the first eight primes -/
def s0w (i : Nat) : Nat := rootL (primesL.getD i 0) false 49 0 % 4294967296
def s0L : List Nat := (List.range 8).map s0w
theorem s0L_len : s0L.length = 8 := by simp [s0L]
theorem s0L_words : words s0L := by
  intro x hx
  obtain ⟨i, -, rfl⟩ := List.mem_map.1 hx
  exact Nat.mod_lt _ (by omega)
/-- as far as they are found -/
def s0To (i : Nat) : List Nat := (List.range 8).map fun j => if j < i then s0w j else 0
theorem s0To_len (i : Nat) : (s0To i).length = 8 := by simp [s0To]
theorem s0To_succ (i : Nat) (h : i < 8) : (s0To i).set i (s0w i) = s0To (i + 1) := by
  have hg : ∀ i j, j < 8 → (s0To i)[j]? = some (if j < i then s0w j else 0) := fun i j hj => by
    unfold s0To; rw [List.getElem?_map, List.getElem?_range hj]; rfl
  apply List.ext_getElem?
  intro j
  by_cases hj : j < 8
  · rw [List.getElem?_set, s0To_len, hg _ j hj, hg _ j hj]
    by_cases e : i = j
    · subst e; rw [if_pos rfl, if_pos h, if_pos (by omega)]
    · rw [if_neg e]
      by_cases h1 : j < i
      · rw [if_pos h1, if_pos (by omega)]
      · rw [if_neg h1, if_neg (by omega)]
  · rw [List.getElem?_eq_none (by rw [List.length_set, s0To_len]; omega), List.getElem?_eq_none (by rw [s0To_len]; omega)]
theorem s0To_0 : s0To 0 = List.replicate 8 0 := by simp [s0To]; rfl
theorem s0To_8 : s0To 8 = s0L := by
  unfold s0To s0L
  apply List.map_congr_left
  intro j hj
  rw [if_pos (List.mem_range.1 hj)]
theorem primesL_lt (i : Nat) : primesL.getD i 0 < 4294967296 := by
  rw [List.getD_eq_getElem?_getD]
  by_cases hi : i < primesL.length
  · rw [List.getElem?_eq_getElem hi]
    have h := (List.mem_filter.1 (List.getElem_mem hi)).1
    rw [List.mem_range'] at h
    obtain ⟨i, h1, h2⟩ := h
    rw [Option.getD_some]; omega
  · rw [List.getElem?_eq_none (by omega)]; simp
theorem primeI_nat (i : Nat) (h : i < 8) : primeI (i : Int) = ((primesL.getD i 0 : Nat) : Int) := by
  unfold primeI; rw [if_neg (by omega)]; rfl
theorem foldl_zip : ∀ (l : List Value) (k : Nat) (cs : List Value), List.foldl (fun (cs : Array Value) x => cs.setIfInBounds x.2 x.1) cs.toArray (l.zipIdx k) = (setL cs k l).toArray
  | [], k, cs => rfl
  | v :: l, k, cs => by
    rw [List.zipIdx_cons, List.foldl_cons, List.setIfInBounds_toArray]
    exact foldl_zip l (k + 1) (cs.set k v)
theorem built_hash (x : List Nat) (hx : x.length = 64) : Try.prog.built 93 [(0, .agg (wcells x).toArray)] = some (hashC x (List.replicate 8 0) (.slice none 0 0) 0).toArray := by
  show Instr.fill (fun x => [((0 : Nat), (64 : Nat)), (64, 8), (72, 1), (73, 1)].toArray[x]?) (hashC (List.replicate 64 0) (List.replicate 8 0) (.slice none 0 0) 0).toArray [(0, .agg (wcells x).toArray)] = _
  have hl : (wcells x).length = 64 := by rw [wcells_len, hx]
  have e := setL_mid [] (wcells x) (wcells (List.replicate 64 0)) (wcells (List.replicate 8 0) ++ [.slice none 0 0, .int .i64 0]) (by rw [hl]; rfl)
  have e2 : setL (hashC (List.replicate 64 0) (List.replicate 8 0) (.slice none 0 0) 0) 0 (wcells x) = hashC x (List.replicate 8 0) (.slice none 0 0) 0 := e
  have hs : (hashC (List.replicate 64 0) (List.replicate 8 0) (.slice none 0 0) 0).length = 74 := by rfl
  clear e
  obtain ⟨Z, hZ⟩ : ∃ Z, Z = hashC (List.replicate 64 0) (List.replicate 8 0) (.slice none 0 0) 0 := ⟨_, rfl⟩
  obtain ⟨Y, hY⟩ : ∃ Y, Y = hashC x (List.replicate 8 0) (.slice none 0 0) 0 := ⟨_, rfl⟩
  rw [← hZ, ← hY] at e2
  rw [← hZ] at hs
  rw [← hZ, ← hY]
  simp [Instr.fill, Value.cells, hl, hs, foldl_zip, e2]
theorem wpList_built {P : Program} {ops : Array Oper} {rest : List Oper} {o : Oper} {a : Act} {w : World} {Q : Exit → Act → World → Prop} (hg : o.guard = none) (t : TypeId) (parts : Array (Nat × Operand)) (ho : o.op = .build t parts) (ps : List (Nat × Value)) (cells : Array Value)
    (hp : (parts.map fun (i, x) => (i, a.eval x)).toList = ps) (hb : P.built t ps = some cells)
    (h : wpList P ops Q rest (a.put o.dst (.agg cells)) w) : wpList P ops Q (o :: rest) a w := by
  subst hp
  exact wpList_build hg t parts ho (by rw [hb]; rfl) (by rw [hb]; exact h)
set_option maxHeartbeats 4000000 in
theorem new_c (w : World) : Calls Try.prog 44 #[] w (Tells w (fun w' v => ∃ g, v = .pointer (some ⟨g, 0, none⟩) ∧ w.heap.size ≤ g ∧ Blk w' g 93 (hashC kL s0L (.slice none 0 0) 0))) := by
  have HR := Lib.hid (fun w => roots_c w)
  go_enter Try.func44, Try.ntmps44
  go_wp2_with fail
  refine (HR.out _).mono ?_
  rintro e w1 ⟨_, rfl, rfl, hg1⟩
  obtain ⟨H, hH⟩ : ∃ H, H = hashC kL (List.replicate 8 0) (.slice none 0 0) 0 := ⟨_, rfl⟩
  have hbd := built_hash kL kL_len
  rw [← hH] at hbd
  have HB := Lib.hid hbd
  have HH := Lib.hid hH
  clear hH hbd
  go_wp2_with (refine wpList_built (by rfl) 93 #[(0, .tmp 3)] (by rfl) [(0, .agg (wcells kL).toArray)] H.toArray (by simp [Act.eval]) HB.out ?_)
  obtain ⟨g, hg⟩ : ∃ g, g = w1.heap.size := ⟨_, rfl⟩
  have hb0 : Blk (w1.alloc (.cells H.toArray 93)) g 93 (hashC kL (s0To 0) (.slice none 0 0) 0) := by rw [hg, HH.out, s0To_0]; exact Blk.new _ _ _
  have hgr0 : Grew w (w1.alloc (.cells H.toArray 93)) := Grew.trans hg1 (Grew.alloc _ _)
  have hgw : w.heap.size ≤ g := by rw [hg]; exact hg1.size
  rw [← hg]
  clear hg
  go_loopw [6] (fun iv wq => ∃ i : Nat, iv = .int .i64 (i : Int) ∧ i ≤ 8 ∧ Blk wq g 93 (hashC kL (s0To i) (.slice none 0 0) 0) ∧ Grew w wq) (fun iv _ => 8 - (intOf iv).toNat)
  case atStart => exact ⟨0, rfl, by omega, hb0, hgr0⟩
  case round =>
    obtain ⟨i, rfl, hi, hb, hgr⟩ := hrel
    clear hb0 hgr0
    by_cases hi8 : i < 8
    · have d1 : decide ((i : Int) < 8) = true := decide_eq_true (by omega)
      have i1 : (i : Int) < 8 := by omega
      obtain ⟨p, hp⟩ : ∃ p, p = primesL.getD i 0 := ⟨_, rfl⟩
      have hpl : p < 4294967296 := by rw [hp]; exact primesL_lt i
      have hpc : ∀ w, Calls Try.prog 52 #[.int .i64 (i : Int)] w (Tells w (Is (.int .u32 (p : Int)))) := fun w => by
        have h := prime_c i w
        rw [primeI_nat i hi8, ← hp] at h
        exact h
      have hrc : ∀ w, Calls Try.prog 51 #[.int .u32 (p : Int), .bool false] w (Tells w (Is (.int .u32 ((s0w i : Nat) : Int)))) := fun w => by
        have h := root_c p hpl false w
        unfold s0w
        rw [← hp]
        exact h
      obtain ⟨r, hr⟩ : ∃ r, r = s0w i := ⟨_, rfl⟩
      rw [← hr] at hrc
      have HP := Lib.hid hpc
      have HQ := Lib.hid hrc
      have HBL := Lib.hid hb
      have HRR := Lib.hid hr
      clear hpc hrc hb hp hr
      go_wp2_with fail
      apply region_grew [Is _, Is _, Is _, Is _, Is _, Is _, Is _] [([(1, none)], none), ([(2, none)], none), ([(2, none)], none), ([(11, some 2)], none), ([(12, some 3)], none), ([(9, some 0)], none), ([(14, some 5)], none)] [(9, 0), (10, 1), (11, 2), (12, 3), (13, 4), (14, 5), (15, 6)] rfl (by kernel_rfl) (by kernel_rfl) (show Stable Grew _ from ⟨Is.stable _, Is.stable _, Is.stable _, Is.stable _, Is.stable _, Is.stable _, Is.stable _, trivial⟩)
      · show OpsHold _ _ _ _ _ _ _ _ _
        refine ⟨fun a_ wx hR hD K hK => ?_, ?_⟩
        · have hG : Grew wr wx := (Grew.drew _).trans hR
          simp [Deps, Dep, at_, Is] at hD
          go_simp
          exact hK _ _ (Grew.refl _) rfl
        refine ⟨fun a_ wx hR hD K hK => ?_, ?_⟩
        · have hG : Grew wr wx := (Grew.drew _).trans hR
          simp [Deps, Dep, at_, Is] at hD
          go_simp
          exact hK _ _ (Grew.refl _) rfl
        refine ⟨fun a_ wx hR hD K hK => ?_, ?_⟩
        · have hG : Grew wr wx := (Grew.drew _).trans hR
          simp [Deps, Dep, at_, Is] at hD
          go_simp
          exact hK _ _ (Grew.refl _) rfl
        refine ⟨fun a_ wx hR hD K hK => ?_, ?_⟩
        · have hG : Grew wr wx := (Grew.drew _).trans hR
          simp [Deps, Dep, at_, Is] at hD
          go_simp
          have hcn := HP.out wx
          with_reducible refine hcn.mono ?_
          clear hcn
          rintro e wy ⟨v, rfl, hv, hg⟩
          exact hK _ _ hg hv
        refine ⟨fun a_ wx hR hD K hK => ?_, ?_⟩
        · have hG : Grew wr wx := (Grew.drew _).trans hR
          simp [Deps, Dep, at_, Is] at hD
          go_simp
          have hcn := HQ.out wx
          with_reducible refine hcn.mono ?_
          clear hcn
          rintro e wy ⟨v, rfl, hv, hg⟩
          exact hK _ _ hg hv
        refine ⟨fun a_ wx hR hD K hK => ?_, ?_⟩
        · have hG : Grew wr wx := (Grew.drew _).trans hR
          simp [Deps, Dep, at_, Is] at hD
          go_simp
          exact hK _ _ (Grew.refl _) rfl
        refine ⟨fun a_ wx hR hD K hK => ?_, ?_⟩
        · have hG : Grew wr wx := (Grew.drew _).trans hR
          simp [Deps, Dep, at_, Is] at hD
          go_simp
          exact hK _ _ (Grew.refl _) rfl
        trivial
      · show EndHold _ _ _ _ _ _ _
        refine end_all (xs := [_, _, _, _, _, _, _]) ⟨rfl, rfl, rfl, rfl, rfl, rfl, rfl, trivial⟩ ?_
        rintro w5 hR1 -
        refine ⟨?_⟩
        have hG_w5 : Grew wr w5 := (Grew.drew _).trans hR1
        clear hR1
        simp only [Act.put, List.setIfInBounds_toArray, List.set_cons_succ, List.set_cons_zero, dropN, putEach]
        have HB5 := Lib.hid (HBL.out.grew hG_w5)
        have c1 := HB5.out.at_ (64 + i)
        rw [hashC_s kL_len (s0To_len i) i hi8] at c1
        have c2 := HB5.out.fz (64 + i)
        go_wp2_with fail
        go_roundw
        case rel =>
          refine ⟨i + 1, by go_num, by omega, ?_, Grew.setCell_new (Grew.trans hgr hG_w5) (by simpa using hgw) _⟩
          have h := HB5.out.set (64 + i) (.int .u32 (r : Int))
          rw [hashC_set_s kL_len i (by rw [s0To_len]; omega), HRR.out, s0To_succ i hi8] at h
          rw [HRR.out]
          exact h
        case measure => simp [intOf]; omega
    · have d1 : decide ((i : Int) < 8) = false := decide_eq_false (by omega)
      obtain rfl : i = 8 := by omega
      rw [s0To_8] at hb
      have HB := Lib.hid hb
      clear hb
      go_wp2_with fail
      go_ret
      exact ⟨_, rfl, ⟨g, rfl, hgw, HB.out⟩, hgr⟩
end Go.Proofs.Ytimcafohmahapaa.F

-- F55
namespace Go.Proofs.Ytimcafohmahapaa.F
open Go.RowKit Go.Proofs.YtimcafohmahapaaW.PrintWords Go.Proofs.YtimcafohmahapaaW.PrintLast Go.Proofs.YtimcafohmahapaaW.PrintMore
attribute [local go_sem] max2_int min2_int max_two min_two max_three min_three max_four min_four   -- for this text's walks alone
set_option linter.unusedVariables false
set_option linter.unusedSimpArgs false

/-! ### sha_Pad: function 55 -/
mutual
def sha_Pad.l0 : Nat → Int → List Int → Option (List Int)
  | 0, _, _ => none
  | k + 1, x0, x3 => if (Int.tmod (wrap64 ((wrap64 ((Int.tmod x0 64) + (x3.length : Int))) + 8)) 64) = 0 then (sha_Pad.l1 k x3 (IntKind.u64.wrap ((IntKind.u64.wrap (x0)) * 8)) 0) else (if x3.length < 140737488355328 then (sha_Pad.l0 k x0 (x3 ++ [0])) else (none))
def sha_Pad.l1 : Nat → List Int → Int → Int → Option (List Int)
  | 0, _, _, _ => none
  | k + 1, x3, x4, x23 => if x23 < 8 then (if 0 ≤ (wrap64 (56 - (wrap64 (8 * x23)))) then (if x3.length < 140737488355328 then (sha_Pad.l1 k (x3 ++ [(shr .u64 x4 (wrap64 (56 - (wrap64 (8 * x23))))) % 256]) x4 (wrap64 (x23 + 1))) else (none)) else (none)) else (some x3)
end
def sha_Pad.f (k : Nat) (a0 : Int) : Option (List Int) := if a0 < 0 then (some ([] : List Int)) else (sha_Pad.l0 k a0 (([128] : List Int)))
set_option maxHeartbeats 8000000 in
set_option maxRecDepth 100000 in
theorem sha_Pad.calls (k : Nat) (a0 : Int) (r : List Int) (w : World) (h : sha_Pad.f k a0 = some r) :
    Calls Try.prog 55 #[.int .i64 a0] w fun e w' => ∃ v0_ : Value, e = .returned (v0_) ∧ Kd.R (Kd.int .u8) 5 w' w.heap.size (fun _ => True) v0_ r ∧ Below w.heap.size w w' := by
  have HB := Aside0.mk (Below.refl w.heap.size w)
  have H : (if a0 < 0 then (some ([] : List Int)) else (sha_Pad.l0 k a0 (([128] : List Int)))) = some r := h
  clear h
  by_cases c2 : a0 < 0
  · rw [if_pos c2] at H
    have c2b0 : decide (a0 < 0) = true := decide_eq_true c2
    clear c2
    obtain rfl := Option.some.inj H
    go_enter Try.func55, Try.ntmps55
    go_wp2
    go_ret
    exact ⟨_, by first | rfl | (simp [errW_none, errW_some] <;> rfl) | (simp [*, errW_none, errW_some] <;> rfl), by first | exact Kd.R_nil _ _ _ _ _ | exact Kd.N_nil _ _ _ _ _ | exact Kd.V_nil _ _ _ _ _ | exact Kd.Q_nil _ _ _ _ _ | exact Kd.S_nil _ _ _ _ _, by repeat (first | (with_reducible first | exact HB.out | apply below_alloc | apply pw_below_drewN | apply below_drew1) | exact HB.out)⟩
  · rw [if_neg c2] at H
    have c2b0 : decide (a0 < 0) = false := decide_eq_false c2
    clear c2
    obtain ⟨y119, hy119⟩ : ∃ y_ : List Int, y_ = (([128] : List Int)) := ⟨_, rfl⟩
    replace H : (sha_Pad.l0 k a0 y119) = some r := by first | (rw [hy119]; with_reducible exact H) | (have H2_ := (Option.bind_some _ _).symm.trans H; rw [hy119]; with_reducible exact H2_) | (have H2_ := (Option.bind_some _ _).symm.trans H; with_reducible exact H2_) | with_reducible exact H | (rw [hy119]; exact H) | exact H
    have Ny119 := Aside0.mk hy119
    clear hy119
    have H' := Aside0.mk H
    clear H
    go_enter Try.func55, Try.ntmps55
    go_wp2_with (first | ((with_reducible refine gate_dst (N := 8) rfl ?_); refine Kd.R_lit (Kd.int .u8) _ 5 ?hg (N := 8) ?hd (xs := ([128] : List Int)) (inner := [.int .u8 128]) (ok := fun _ => True) (okp := fun _ => True) ?hr ?hp (fun _ hk => hk) trivial (Below.refl _ _) (Nat.le_refl _) (by simp) ?_; (case hd => rfl); (case hg => rfl); (case hr => first | (go_simp; done) | (go_simp; rfl)); (case hp => exact (Reps.one (show Kd.M (Kd.int .u8) _ _ _ 128 [.int .u8 128] from rfl) (Reps.none _ _))); intro v120 w3 ho4 hb hg_ hnew_; clear hg_ hnew_; (first | rw [← Ny119.out] at ho4 | (simp only [Int.reduceToNat] at ho4; rw [← Ny119.out] at ho4)); have n0_ := Aside0.mk (Kd.R_lower ho4 (below_size (by repeat (first | (with_reducible first | exact HB.out | apply below_alloc | apply pw_below_drewN | apply below_drew1) | exact HB.out)))); have n1_ := Aside0.mk (below_step (by repeat (first | (with_reducible first | exact HB.out | apply below_alloc | apply pw_below_drewN | apply below_drew1) | exact HB.out)) hb); clear HB; have HO121 := n0_; have HB := n1_; clear n0_ n1_; clear hb ho4))
    go_loopg [3] k (fun kq v3 w' => ∃ (x3_1 : List Int), Aside0 (sha_Pad.l0 kq a0 x3_1 = some r) ∧ Aside0 (kq ≤ k) ∧ Aside0 (Kd.R (Kd.int .u8) 5 w' w.heap.size (fun _ => True) v3 x3_1) ∧ Aside0 (Below w.heap.size w w'))
    case atStart => exact ⟨(y119), H', ⟨Nat.le_refl _⟩, ⟨by (with_reducible repeat (first | apply Kd.R_alloc | apply Kd.R_drewN | apply Kd.R_drew)); exact HO121.out⟩, ⟨by repeat (first | (with_reducible first | exact HB.out | apply below_alloc | apply pw_below_drewN | apply below_drew1) | exact HB.out)⟩⟩
    case round =>
      clear H'
      try clear c2
      try clear c2b0
      try clear p2
      obtain ⟨x3_1, HA, HK1, HO_3, HB⟩ := hrel
      cases gk with
      | zero => exact absurd HA.out (by simp [sha_Pad.l0])
      | succ k1 =>
        have H := HA.out
        clear HA
        simp only [sha_Pad.l0] at H
        by_cases c5 : (Int.tmod (wrap64 ((wrap64 ((Int.tmod a0 64) + (x3_1.length : Int))) + 8)) 64) = 0
        · rw [if_pos c5] at H
          have c5b0 : ((Int.tmod (wrap64 ((wrap64 ((Int.tmod a0 64) + (x3_1.length : Int))) + 8)) 64) == 0) = true := beq_iff_eq.mpr c5
          have c5b1 : ((Int.tmod (wrap64 ((wrap64 ((Int.tmod a0 64) + (x3_1.length : Int))) + 8)) 64) != 0) = false := bne_eq_false_iff_eq.mpr c5
          clear c5
          have H' := Aside0.mk H
          clear H
          obtain ⟨Ao6, co6, eo6⟩ := Kd.R_slice HO_3.out
          subst eo6
          go_wp2
          go_loopg [3, 23] k1 (fun kq v3 v23 w' => ∃ (x3_2 : List Int) (x23_2 : Int), v23 = .int .i64 x23_2 ∧ Aside0 (sha_Pad.l1 kq x3_2 (IntKind.u64.wrap ((IntKind.u64.wrap (a0)) * 8)) x23_2 = some r) ∧ Aside0 (kq ≤ k1) ∧ Aside0 (Kd.R (Kd.int .u8) 5 w' w.heap.size (fun _ => True) v3 x3_2) ∧ Aside0 (Below w.heap.size w w'))
          case atStart => exact ⟨(x3_1), (0), (by first | rfl | (simp; done) | (simp [*]; done)), H', ⟨Nat.le_refl _⟩, ⟨by (with_reducible repeat (first | apply Kd.R_alloc | apply Kd.R_drewN | apply Kd.R_drew)); exact HO_3.out⟩, ⟨by repeat (first | (with_reducible first | exact HB.out | apply below_alloc | apply pw_below_drewN | apply below_drew1) | exact HB.out)⟩⟩
          case round =>
            clear H'
            try clear c2
            try clear c2b0
            try clear p2
            try clear c5
            try clear c5b0
            try clear c5b1
            try clear p6
            try clear p2
            obtain ⟨x3_2, x23_2, rfl, HA, HK2, HO_3, HB⟩ := hrel
            cases gk with
            | zero => exact absurd HA.out (by simp [sha_Pad.l1])
            | succ k2 =>
              have H := HA.out
              clear HA
              simp only [sha_Pad.l1] at H
              by_cases c7 : x23_2 < 8
              · rw [if_pos c7] at H
                have c7b0 : decide (x23_2 < 8) = true := decide_eq_true c7
                clear c7
                obtain ⟨ji8, hji8⟩ : ∃ j_ : Int, (wrap64 (56 - (wrap64 (8 * x23_2)))) = j_ := ⟨_, rfl⟩
                replace H : (if 0 ≤ (ji8) then (if x3_2.length < 140737488355328 then (sha_Pad.l1 k2 (x3_2 ++ [(shr .u64 (IntKind.u64.wrap ((IntKind.u64.wrap (a0)) * 8)) (ji8)) % 256]) (IntKind.u64.wrap ((IntKind.u64.wrap (a0)) * 8)) (wrap64 (x23_2 + 1))) else (none)) else (none)) = some r := by first | (rw [hji8] at H; exact H) | (simp only [hji8] at H ⊢; exact H)
                have hji8w : (IntKind.i64.wrap (56 - (wrap64 (8 * x23_2)))) = ji8 := (i64_w _).trans hji8
                by_cases c9 : 0 ≤ (ji8)
                · rw [if_pos c9] at H
                  have c9b0 := eq_true c9
                  have c9b1 : decide (0 ≤ (ji8)) = true := decide_eq_true c9
                  clear c9
                  obtain ⟨ji10, hji10⟩ : ∃ j_ : Int, (shr .u64 (IntKind.u64.wrap ((IntKind.u64.wrap (a0)) * 8)) (ji8)) = j_ := ⟨_, rfl⟩
                  replace H : (if x3_2.length < 140737488355328 then (sha_Pad.l1 k2 (x3_2 ++ [(ji10) % 256]) (IntKind.u64.wrap ((IntKind.u64.wrap (a0)) * 8)) (wrap64 (x23_2 + 1))) else (none)) = some r := by first | (rw [hji10] at H; exact H) | (simp only [hji10] at H ⊢; exact H)
                  have hji10_ : ((IntKind.u64.wrap ((IntKind.u64.wrap (a0)) * 8)) / 2 ^ min (ji8).toNat 64) = ji10 := hji10
                  have hji10z : (ji8) ≤ 64 → ((IntKind.u64.wrap ((IntKind.u64.wrap (a0)) * 8)) / 2 ^ (ji8).toNat) = ji10 := shr_small hji10
                  by_cases c11 : x3_2.length < 140737488355328
                  · rw [if_pos c11] at H
                    have LMc11 := Aside0.mk c11
                    clear c11
                    obtain ⟨y125, hy125⟩ : ∃ y_ : List Int, y_ = (x3_2 ++ [(ji10) % 256]) := ⟨_, rfl⟩
                    replace H : (sha_Pad.l1 k2 y125 (IntKind.u64.wrap ((IntKind.u64.wrap (a0)) * 8)) (wrap64 (x23_2 + 1))) = some r := by first | (rw [hy125]; with_reducible exact H) | (have H2_ := (Option.bind_some _ _).symm.trans H; rw [hy125]; with_reducible exact H2_) | (have H2_ := (Option.bind_some _ _).symm.trans H; with_reducible exact H2_) | with_reducible exact H | (rw [hy125]; exact H) | exact H
                    have Ny125 := Aside0.mk hy125
                    clear hy125
                    have H' := Aside0.mk H
                    clear H
                    go_wp2_with (first | ((with_reducible refine gate_builtin (b := .append) (xs := #[.tmp 26, .tmp 33]) rfl ?_); at_builtin; refine Kd.R_append (Kd.int .u8) (w0 := w) w.heap.size rfl (.tmp 26) (.tmp 33) 23 5 (.int .u8 0) 1 rfl Try.underlying23 info5 rfl (by decide) (by omega) u3 x3_2 ((ji10) % 256) [.int .u8 ((ji10) % 256)] (fun _ => True) (fun _ => False) rfl rfl ?aP (fun _ hk => hk.elim) ?aF ?aO ?aB ?aS ?aL ?_; (case aP => exact rfl); (case aB => exact (by repeat (first | (with_reducible first | exact HB.out | apply below_alloc | apply pw_below_drewN | apply below_drew1) | exact HB.out))); (case aF => exact (fun _ _ => trivial)); (case aO => exact (by (with_reducible repeat (first | apply Kd.R_alloc | apply Kd.R_drewN | apply Kd.R_drew)); exact HO_3.out)); (case aS => exact (below_size (by repeat (first | (with_reducible first | exact HB.out | apply below_alloc | apply pw_below_drewN | apply below_drew1) | exact HB.out)))); (case aL => have := LMc11.out; omega); intro v126 w12 ho hb hg hat; rw [← Ny125.out] at ho; have n0_ := Aside0.mk (hb); have n1_ := Aside0.mk (ho); clear HB; clear HO_3; have HB := n0_; have HO127 := n1_; clear n0_ n1_; clear ho hb hg hat))
                    go_roundg k2
                    case measure => have := HK1.out; have := HK2.out; omega
                    case rel => exact ⟨(y125), (wrap64 (x23_2 + 1)), (by first | rfl | (simp; done) | (simp [*]; done)), H', ⟨by have := HK1.out; have := HK2.out; omega⟩, ⟨by (with_reducible repeat (first | apply Kd.R_alloc | apply Kd.R_drewN | apply Kd.R_drew)); exact HO127.out⟩, ⟨by repeat (first | (with_reducible first | exact HB.out | apply below_alloc | apply pw_below_drewN | apply below_drew1) | exact HB.out)⟩⟩
                  · rw [if_neg c11] at H
                    exact absurd H (by simp)
                · rw [if_neg c9] at H
                  exact absurd H (by simp)
              · rw [if_neg c7] at H
                have c7b0 : decide (x23_2 < 8) = false := decide_eq_false c7
                clear c7
                obtain rfl := Option.some.inj H
                go_wp2
                go_ret
                exact ⟨_, by first | rfl | (simp [errW_none, errW_some] <;> rfl) | (simp [*, errW_none, errW_some] <;> rfl), by (with_reducible repeat (first | apply Kd.R_alloc | apply Kd.R_drewN | apply Kd.R_drew)); exact HO_3.out, by repeat (first | (with_reducible first | exact HB.out | apply below_alloc | apply pw_below_drewN | apply below_drew1) | exact HB.out)⟩
        · rw [if_neg c5] at H
          have c5b0 : ((Int.tmod (wrap64 ((wrap64 ((Int.tmod a0 64) + (x3_1.length : Int))) + 8)) 64) == 0) = false := beq_eq_false_iff_ne.mpr c5
          have c5b1 : ((Int.tmod (wrap64 ((wrap64 ((Int.tmod a0 64) + (x3_1.length : Int))) + 8)) 64) != 0) = true := bne_iff_ne.mpr c5
          by_cases c13 : x3_1.length < 140737488355328
          · rw [if_pos c13] at H
            have LMc13 := Aside0.mk c13
            clear c13
            obtain ⟨y122, hy122⟩ : ∃ y_ : List Int, y_ = (x3_1 ++ [0]) := ⟨_, rfl⟩
            replace H : (sha_Pad.l0 k1 a0 y122) = some r := by first | (rw [hy122]; with_reducible exact H) | (have H2_ := (Option.bind_some _ _).symm.trans H; rw [hy122]; with_reducible exact H2_) | (have H2_ := (Option.bind_some _ _).symm.trans H; with_reducible exact H2_) | with_reducible exact H | (rw [hy122]; exact H) | exact H
            have Ny122 := Aside0.mk hy122
            clear hy122
            have H' := Aside0.mk H
            clear H
            obtain ⟨Ao14, co14, eo14⟩ := Kd.R_slice HO_3.out
            subst eo14
            go_wp2_with (first | ((with_reducible refine gate_builtin (b := .append) (xs := #[.tmp 17, .tmp 18]) rfl ?_); at_builtin; refine Kd.R_append (Kd.int .u8) (w0 := w) w.heap.size rfl (.tmp 17) (.tmp 18) 23 5 (.int .u8 0) 1 rfl Try.underlying23 info5 rfl (by decide) (by omega) (.slice Ao14 x3_1.length co14) x3_1 0 [.int .u8 0] (fun _ => True) (fun _ => False) rfl rfl ?aP (fun _ hk => hk.elim) ?aF ?aO ?aB ?aS ?aL ?_; (case aP => exact rfl); (case aB => exact (by repeat (first | (with_reducible first | exact HB.out | apply below_alloc | apply pw_below_drewN | apply below_drew1) | exact HB.out))); (case aF => exact (fun _ _ => trivial)); (case aO => exact (by (with_reducible repeat (first | apply Kd.R_alloc | apply Kd.R_drewN | apply Kd.R_drew)); exact HO_3.out)); (case aS => exact (below_size (by repeat (first | (with_reducible first | exact HB.out | apply below_alloc | apply pw_below_drewN | apply below_drew1) | exact HB.out)))); (case aL => have := LMc13.out; omega); intro v123 w15 ho hb hg hat; rw [← Ny122.out] at ho; have n0_ := Aside0.mk (hb); have n1_ := Aside0.mk (ho); clear HB; clear HO_3; have HB := n0_; have HO124 := n1_; clear n0_ n1_; clear ho hb hg hat))
            go_roundg k1
            case measure => have := HK1.out; omega
            case rel => exact ⟨(y122), H', ⟨by have := HK1.out; omega⟩, ⟨by (with_reducible repeat (first | apply Kd.R_alloc | apply Kd.R_drewN | apply Kd.R_drew)); exact HO124.out⟩, ⟨by repeat (first | (with_reducible first | exact HB.out | apply below_alloc | apply pw_below_drewN | apply below_drew1) | exact HB.out)⟩⟩
          · rw [if_neg c13] at H
            exact absurd H (by simp)

-- NOT PRINTED: function 47 (sha_Hash_Sum)

-- NOT PRINTED: function 54 (sha_Sum)

-- NOT PRINTED: function 46 (mac_turned)

-- NOT PRINTED: function 40 (mac_Seal)

-- NOT PRINTED: function 29 (sign_One)

-- NOT PRINTED: function 16 (sign_Signs)

-- NOT PRINTED: function 30 (sign_New)

-- NOT PRINTED: function 32 (sign_Index_Weak)

-- NOT PRINTED: function 33 (sign_Index_Find)

-- NOT PRINTED: function 34 (delta_byself)

end Go.Proofs.Ytimcafohmahapaa.F

-- F59
namespace Go.Proofs.Ytimcafohmahapaa.F
open Go.RowKit Go.Proofs.YtimcafohmahapaaW.PrintWords Go.Proofs.YtimcafohmahapaaW.PrintLast Go.Proofs.YtimcafohmahapaaW.PrintMore
attribute [local go_sem] max2_int min2_int max_two min_two max_three min_three max_four min_four   -- for this text's walks alone
set_option linter.unusedVariables false
set_option linter.unusedSimpArgs false

/-! ### strongroomref02_Pad: function 59 -/
mutual
def strongroomref02_Pad.l0 : Nat → Int → ByteArray → Option (ByteArray)
  | 0, _, _ => none
  | k + 1, x0, x3 => if (Int.tmod (wrap64 ((Int.tmod x0 64) + (x3.size : Int))) 64) = 56 then (strongroomref02_Pad.l1 k x3 (IntKind.u64.wrap ((IntKind.u64.wrap (x0)) * 8)) (⟨#[]⟩ : ByteArray) 0) else (if x3.size + 1 ≤ 9223372036854775807 then (strongroomref02_Pad.l0 k x0 (x3 ++ (⟨#[0]⟩ : ByteArray))) else (none))
def strongroomref02_Pad.l1 : Nat → ByteArray → Int → ByteArray → Int → Option (ByteArray)
  | 0, _, _, _, _ => none
  | k + 1, x3, x4, x5, x6 => if x6 < 8 then ((some (([(Int.tmod x4 256) % 256] : List Int) : List Int)).bind fun y280 => (if (strOfNums y280).size + x5.size ≤ 9223372036854775807 then (strongroomref02_Pad.l1 k x3 (IntKind.u64.wrap (Int.tdiv x4 256)) ((strOfNums y280) ++ x5) (wrap64 (x6 + 1))) else (none))) else (if x3.size + x5.size ≤ 9223372036854775807 then (some (x3 ++ x5)) else (none))
end
def strongroomref02_Pad.f (k : Nat) (a0 : Int) : Option (ByteArray) := if a0 < 0 then (some (⟨#[]⟩ : ByteArray)) else (strongroomref02_Pad.l0 k a0 (⟨#[128]⟩ : ByteArray))
set_option maxHeartbeats 8000000 in
set_option maxRecDepth 100000 in
theorem strongroomref02_Pad.calls (k : Nat) (a0 : Int) (r : ByteArray) (w : World) (h : strongroomref02_Pad.f k a0 = some r) :
    Calls Try.prog 59 #[.int .i64 a0] w fun e w' => e = .returned (.string r) ∧ Below w.heap.size w w' := by
  have HB := Aside0.mk (Below.refl w.heap.size w)
  have H : (if a0 < 0 then (some (⟨#[]⟩ : ByteArray)) else (strongroomref02_Pad.l0 k a0 (⟨#[128]⟩ : ByteArray))) = some r := h
  clear h
  by_cases c2 : a0 < 0
  · rw [if_pos c2] at H
    have c2b0 : decide (a0 < 0) = true := decide_eq_true c2
    clear c2
    obtain rfl := Option.some.inj H
    go_enter Try.func59, Try.ntmps59
    go_wp2
    go_ret
    exact ⟨by first | rfl | (simp [errW_none, errW_some] <;> rfl) | (simp [*, errW_none, errW_some] <;> rfl), by repeat (first | (with_reducible first | exact HB.out | apply below_alloc | apply pw_below_drewN | apply below_drew1) | exact HB.out)⟩
  · rw [if_neg c2] at H
    have c2b0 : decide (a0 < 0) = false := decide_eq_false c2
    clear c2
    have H' := Aside0.mk H
    clear H
    go_enter Try.func59, Try.ntmps59
    go_wp2
    go_loopg [3] k (fun kq v3 w' => ∃ (x3_1 : ByteArray), v3 = .string x3_1 ∧ Aside0 (strongroomref02_Pad.l0 kq a0 x3_1 = some r) ∧ Aside0 (kq ≤ k) ∧ Aside0 (Below w.heap.size w w'))
    case atStart => exact ⟨((⟨#[128]⟩ : ByteArray)), (by first | rfl | (simp; done) | (simp [*]; done)), H', ⟨Nat.le_refl _⟩, ⟨by repeat (first | (with_reducible first | exact HB.out | apply below_alloc | apply pw_below_drewN | apply below_drew1) | exact HB.out)⟩⟩
    case round =>
      clear H'
      try clear c2
      try clear c2b0
      try clear p2
      obtain ⟨x3_1, rfl, HA, HK1, HB⟩ := hrel
      cases gk with
      | zero => exact absurd HA.out (by simp [strongroomref02_Pad.l0])
      | succ k1 =>
        have H := HA.out
        clear HA
        simp only [strongroomref02_Pad.l0] at H
        by_cases c3 : (Int.tmod (wrap64 ((Int.tmod a0 64) + (x3_1.size : Int))) 64) = 56
        · rw [if_pos c3] at H
          have c3b0 : ((Int.tmod (wrap64 ((Int.tmod a0 64) + (x3_1.size : Int))) 64) == 56) = true := beq_iff_eq.mpr c3
          have c3b1 : ((Int.tmod (wrap64 ((Int.tmod a0 64) + (x3_1.size : Int))) 64) != 56) = false := bne_eq_false_iff_eq.mpr c3
          clear c3
          have H' := Aside0.mk H
          clear H
          go_wp2
          go_loopg [4, 5, 6] k1 (fun kq v4 v5 v6 w' => ∃ (x4_2 : Int) (x5_2 : ByteArray) (x6_2 : Int), v4 = .int .u64 x4_2 ∧ v5 = .string x5_2 ∧ v6 = .int .i64 x6_2 ∧ Aside0 (strongroomref02_Pad.l1 kq x3_1 x4_2 x5_2 x6_2 = some r) ∧ Aside0 (kq ≤ k1) ∧ Aside0 (Below w.heap.size w w'))
          case atStart => exact ⟨(IntKind.u64.wrap ((IntKind.u64.wrap (a0)) * 8)), ((⟨#[]⟩ : ByteArray)), (0), (by first | rfl | (simp; done) | (simp [*]; done)), (by first | rfl | (simp; done) | (simp [*]; done)), (by first | rfl | (simp; done) | (simp [*]; done)), H', ⟨Nat.le_refl _⟩, ⟨by repeat (first | (with_reducible first | exact HB.out | apply below_alloc | apply pw_below_drewN | apply below_drew1) | exact HB.out)⟩⟩
          case round =>
            clear H'
            try clear c2
            try clear c2b0
            try clear p2
            try clear c3
            try clear c3b0
            try clear c3b1
            try clear p2
            obtain ⟨x4_2, x5_2, x6_2, rfl, rfl, rfl, HA, HK2, HB⟩ := hrel
            cases gk with
            | zero => exact absurd HA.out (by simp [strongroomref02_Pad.l1])
            | succ k2 =>
              have H := HA.out
              clear HA
              simp only [strongroomref02_Pad.l1] at H
              by_cases c4 : x6_2 < 8
              · rw [if_pos c4] at H
                have c4b0 : decide (x6_2 < 8) = true := decide_eq_true c4
                clear c4
                obtain ⟨y280, hy280⟩ : ∃ y_ : List Int, y_ = (([(Int.tmod x4_2 256) % 256] : List Int)) := ⟨_, rfl⟩
                replace H : (if (strOfNums y280).size + x5_2.size ≤ 9223372036854775807 then (strongroomref02_Pad.l1 k2 x3_1 (IntKind.u64.wrap (Int.tdiv x4_2 256)) ((strOfNums y280) ++ x5_2) (wrap64 (x6_2 + 1))) else (none)) = some r := by first | (rw [hy280]; with_reducible exact H) | (have H2_ := (Option.bind_some _ _).symm.trans H; rw [hy280]; with_reducible exact H2_) | (have H2_ := (Option.bind_some _ _).symm.trans H; with_reducible exact H2_) | with_reducible exact H | (rw [hy280]; exact H) | exact H
                have Ny280 := Aside0.mk hy280
                clear hy280
                by_cases c5 : (strOfNums y280).size + x5_2.size ≤ 9223372036854775807
                · rw [if_pos c5] at H
                  have c5b0 := eq_true c5
                  have c5b1 : decide ((strOfNums y280).size + x5_2.size ≤ 9223372036854775807) = true := decide_eq_true c5
                  try have c5b2 : (9223372036854775807 < (strOfNums y280).size + x5_2.size) = False := eq_false (Nat.not_lt.2 c5)
                  have H' := Aside0.mk H
                  clear H
                  go_wp2_with (first | ((with_reducible refine gate_dst (N := 28) rfl ?_); refine Kd.R_lit (Kd.int .u8) _ 5 ?hg (N := 28) ?hd (xs := ([(Int.tmod x4_2 256) % 256] : List Int)) (inner := [.int .u8 ((Int.tmod x4_2 256) % 256)]) (ok := fun _ => True) (okp := fun _ => True) ?hr ?hp (fun _ hk => hk) trivial (Below.refl _ _) (Nat.le_refl _) (by simp) ?_; (case hd => rfl); (case hg => rfl); (case hr => first | (go_simp; done) | (go_simp; rfl)); (case hp => exact (Reps.one (show Kd.M (Kd.int .u8) _ _ _ ((Int.tmod x4_2 256) % 256) [.int .u8 ((Int.tmod x4_2 256) % 256)] from rfl) (Reps.none _ _))); intro v281 w6 ho7 hb hg_ hnew_; clear hg_ hnew_; (first | rw [← Ny280.out] at ho7 | (simp only [Int.reduceToNat] at ho7; rw [← Ny280.out] at ho7)); have n0_ := Aside0.mk (Kd.R_lower ho7 (below_size (by repeat (first | (with_reducible first | exact HB.out | apply below_alloc | apply pw_below_drewN | apply below_drew1) | exact HB.out)))); have n1_ := Aside0.mk (below_step (by repeat (first | (with_reducible first | exact HB.out | apply below_alloc | apply pw_below_drewN | apply below_drew1) | exact HB.out)) hb); clear HB; have HO282 := n0_; have HB := n1_; clear n0_ n1_; clear hb ho7; have hcv8 := own_string (P := Try.prog) Try.underlying23 Try.underlying5 Try.underlying9 (Kd.own_of_R HO282.out)))
                  go_roundg k2
                  case measure => have := HK1.out; have := HK2.out; omega
                  case rel => exact ⟨(IntKind.u64.wrap (Int.tdiv x4_2 256)), ((strOfNums y280) ++ x5_2), (wrap64 (x6_2 + 1)), (by first | rfl | (simp; done) | (simp [*]; done)), (by first | rfl | (simp; done) | (simp [*]; done)), (by first | rfl | (simp; done) | (simp [*]; done)), H', ⟨by have := HK1.out; have := HK2.out; omega⟩, ⟨by repeat (first | (with_reducible first | exact HB.out | apply below_alloc | apply pw_below_drewN | apply below_drew1) | exact HB.out)⟩⟩
                · rw [if_neg c5] at H
                  exact absurd H (by simp)
              · rw [if_neg c4] at H
                have c4b0 : decide (x6_2 < 8) = false := decide_eq_false c4
                clear c4
                by_cases c9 : x3_1.size + x5_2.size ≤ 9223372036854775807
                · rw [if_pos c9] at H
                  have c9b0 := eq_true c9
                  have c9b1 : decide (x3_1.size + x5_2.size ≤ 9223372036854775807) = true := decide_eq_true c9
                  try have c9b2 : (9223372036854775807 < x3_1.size + x5_2.size) = False := eq_false (Nat.not_lt.2 c9)
                  obtain rfl := Option.some.inj H
                  go_wp2
                  go_ret
                  exact ⟨by first | rfl | (simp [errW_none, errW_some] <;> rfl) | (simp [*, errW_none, errW_some] <;> rfl), by repeat (first | (with_reducible first | exact HB.out | apply below_alloc | apply pw_below_drewN | apply below_drew1) | exact HB.out)⟩
                · rw [if_neg c9] at H
                  exact absurd H (by simp)
        · rw [if_neg c3] at H
          have c3b0 : ((Int.tmod (wrap64 ((Int.tmod a0 64) + (x3_1.size : Int))) 64) == 56) = false := beq_eq_false_iff_ne.mpr c3
          have c3b1 : ((Int.tmod (wrap64 ((Int.tmod a0 64) + (x3_1.size : Int))) 64) != 56) = true := bne_iff_ne.mpr c3
          by_cases c10 : x3_1.size + 1 ≤ 9223372036854775807
          · rw [if_pos c10] at H
            have c10b0 := eq_true c10
            have c10b1 : decide (x3_1.size + 1 ≤ 9223372036854775807) = true := decide_eq_true c10
            try have c10b2 : (9223372036854775807 < x3_1.size + 1) = False := eq_false (Nat.not_lt.2 c10)
            have H' := Aside0.mk H
            clear H
            go_wp2
            go_roundg k1
            case measure => have := HK1.out; omega
            case rel => exact ⟨(x3_1 ++ (⟨#[0]⟩ : ByteArray)), (by first | rfl | (simp; done) | (simp [*]; done)), H', ⟨by have := HK1.out; omega⟩, ⟨by repeat (first | (with_reducible first | exact HB.out | apply below_alloc | apply pw_below_drewN | apply below_drew1) | exact HB.out)⟩⟩
          · rw [if_neg c10] at H
            exact absurd H (by simp)

end Go.Proofs.Ytimcafohmahapaa.F

-- ShaD
namespace Go.Proofs.Ytimcafohmahapaa.F
open Go Go.RowKit Go.Proofs.YtimcafohmahapaaW.PrintWords Go.Proofs.YtimcafohmahapaaW.PrintLast Go.Proofs.YtimcafohmahapaaW.PrintMore Go.Proofs.YtimcafohmahapaaR
set_option linter.unusedSimpArgs false
set_option linter.unusedVariables false
set_option maxRecDepth 100000
/-- so many bytes of nothing -/
def zN (n : Nat) : Nat := (119 - n % 64) % 64
/-- the eight bytes of a number of bits, from byte i on -/
def bytes8 (m : Nat) (i : Nat) : List Int := (List.range' i (8 - i)).map fun j => ((m / 2 ^ (56 - 8 * j) % 256 : Nat) : Int)
def padL (n : Nat) : List Int := 128 :: (List.replicate (zN n) 0 ++ bytes8 (n * 8 % 18446744073709551616) 0)
theorem padL_len (n : Nat) : (padL n).length = zN n + 9 := by simp [padL, bytes8]
theorem bytes8_succ (m i : Nat) (hi : i < 8) : bytes8 m i = ((m / 2 ^ (56 - 8 * i) % 256 : Nat) : Int) :: bytes8 m (i + 1) := by
  unfold bytes8
  rw [show 8 - i = (8 - (i + 1)) + 1 from by omega, List.range'_succ, List.map_cons]
theorem pad_l1 (m : Nat) : ∀ (j i k : Nat) (x : List Int), 8 - i = j → i ≤ 8 → j < k → x.length + j ≤ 1000 → sha_Pad.l1 k x m i = some (x ++ bytes8 m i) := by
  intro j
  induction j with
  | zero =>
    intro i k x hj hi hk hx
    obtain ⟨k, rfl⟩ : ∃ q, k = q + 1 := ⟨k - 1, by omega⟩
    obtain rfl : i = 8 := by omega
    rw [sha_Pad.l1, if_neg (by omega)]
    simp [bytes8]
  | succ j ih =>
    intro i k x hj hi hk hx
    obtain ⟨k, rfl⟩ : ∃ q, k = q + 1 := ⟨k - 1, by omega⟩
    have e1 : wrap64 (56 - wrap64 (8 * (i : Int))) = ((56 - 8 * i : Nat) : Int) := by unfold wrap64; omega
    have e2 : shr .u64 (m : Int) ((56 - 8 * i : Nat) : Int) % 256 = ((m / 2 ^ (56 - 8 * i) % 256 : Nat) : Int) := by
      unfold shr
      rw [show min ((56 - 8 * i : Nat) : Int).toNat IntKind.u64.bits = 56 - 8 * i from by show min (56 - 8 * i) 64 = _; omega, show (2 : Int) ^ (56 - 8 * i) = ((2 ^ (56 - 8 * i) : Nat) : Int) from by push_cast; rfl]
      generalize 2 ^ (56 - 8 * i) = q
      simp
    rw [sha_Pad.l1, if_pos (by omega), e1, if_pos (by omega), if_pos (by omega), e2, show wrap64 ((i : Int) + 1) = ((i + 1 : Nat) : Int) from by unfold wrap64; omega]
    rw [ih (i + 1) k _ (by omega) (by omega) (by omega) (by simp; omega)]
    rw [bytes8_succ m i (by omega)]
    simp
theorem tmod_nat (a b : Nat) : Int.tmod (a : Int) (b : Int) = ((a % b : Nat) : Int) := by rw [Int.tmod_eq_emod_of_nonneg (by omega)]; simp
theorem pad_e (a j : Nat) (ha : a < 64) (hj : j ≤ 64) : wrap64 (wrap64 ((a : Int) + ((j + 1 : Nat) : Int)) + 8) = ((a + j + 9 : Nat) : Int) := by
  unfold wrap64; omega
theorem pad_z (a j : Nat) (ha : a < 64) (hj : j < (119 - a) % 64) : ¬ (a + j + 9) % 64 = 0 := by omega
theorem pad_z0 (a : Nat) (ha : a < 64) : (a + (119 - a) % 64 + 9) % 64 = 0 := by omega
theorem pad_m (n : Nat) : IntKind.u64.wrap (IntKind.u64.wrap (n : Int) * 8) = ((n * 8 % 18446744073709551616 : Nat) : Int) := by rw [IntKind.wrap_u64, IntKind.wrap_u64]; omega
theorem pad_l0 (n : Nat) : ∀ (d j k : Nat), zN n - j = d → j ≤ zN n → d + 10 < k → sha_Pad.l0 k n (128 :: List.replicate j 0) = some (padL n) := by
  have hz : zN n < 64 := Nat.mod_lt _ (by omega)
  have h64 : Int.tmod (n : Int) 64 = ((n % 64 : Nat) : Int) := tmod_nat n 64
  have ha : n % 64 < 64 := Nat.mod_lt _ (by omega)
  have hl : ∀ j : Nat, ((128 :: List.replicate j 0 : List Int).length : Int) = ((j + 1 : Nat) : Int) := fun j => by simp
  intro d
  induction d with
  | zero =>
    intro j k hd hj hk
    obtain ⟨k, rfl⟩ : ∃ q, k = q + 1 := ⟨k - 1, by omega⟩
    obtain rfl : j = zN n := by omega
    have hc : ((n % 64 + zN n + 9 : Nat) : Int).tmod 64 = 0 := by
      have h := pad_z0 (n % 64) ha
      rw [show (64 : Int) = ((64 : Nat) : Int) from rfl, tmod_nat]
      unfold zN; rw [h]; rfl
    rw [sha_Pad.l0, h64, hl, pad_e _ _ ha (by omega), if_pos hc, pad_m]
    have h := pad_l1 (n * 8 % 18446744073709551616) 8 0 k (128 :: List.replicate (zN n) 0) (by omega) (by omega) (by omega) (by rw [List.length_cons, List.length_replicate]; omega)
    rw [show ((0 : Nat) : Int) = 0 from rfl] at h
    rw [h, List.cons_append]; unfold padL; trivial
  | succ d ih =>
    intro j k hd hj hk
    obtain ⟨k, rfl⟩ : ∃ q, k = q + 1 := ⟨k - 1, by omega⟩
    have hc : ¬ ((n % 64 + j + 9 : Nat) : Int).tmod 64 = 0 := by
      have hlt : j < zN n := by omega
      have h := pad_z (n % 64) j ha hlt
      rw [show (64 : Int) = ((64 : Nat) : Int) from rfl, tmod_nat]
      intro h2
      exact h (by exact_mod_cast h2)
    have hl2 : (128 :: List.replicate j 0 : List Int).length < 140737488355328 := by rw [List.length_cons, List.length_replicate]; omega
    rw [sha_Pad.l0, h64, hl, pad_e _ _ ha (by omega), if_neg hc, if_pos hl2]
    rw [List.cons_append, ← List.replicate_succ']
    exact ih (j + 1) k (by omega) (by omega) (by omega)
theorem pad_f (n k : Nat) (hn : n < 9223372036854775808) (hk : 74 < k) : sha_Pad.f k n = some (padL n) := by
  have hz : zN n < 64 := Nat.mod_lt _ (by omega)
  have h := pad_l0 n (zN n) 0 k rfl (by omega) (by omega)
  unfold sha_Pad.f
  rw [if_neg (by omega)]
  exact h
theorem pad_c (n : Nat) (hn : n < 9223372036854775808) (w : World) : Calls Try.prog 55 #[.int .i64 (n : Int)] w (Tells w (fun w' v => w'.ownsRow w.heap.size 5 1 v (padL n).length (nums .u8 (padL n)))) := by
  obtain ⟨k, hk⟩ : ∃ k : Nat, 74 < k := ⟨75, by omega⟩
  have hf := pad_f n k hn hk
  obtain ⟨r, hr⟩ : ∃ r, r = padL n := ⟨_, rfl⟩
  rw [← hr] at hf ⊢
  clear hr
  exact (sha_Pad.calls k n r w hf).mono fun _ _ ⟨v, h, hr, k⟩ => ⟨v, h, Kd.own_of_R (enc := Value.int .u8) hr, k⟩
theorem bytes8_len (m j : Nat) : (bytes8 m j).length = 8 - j := by simp [bytes8]
/-- the reference's eight bytes -/
theorem rpad_l1 (x : ByteArray) (hx : x.size ≤ 1000) (m : Nat) (hm : m < 18446744073709551616) : ∀ (j k : Nat), j ≤ 8 → j < k →
    strongroomref02_Pad.l1 k x ((m / 2 ^ (64 - 8 * j) : Nat) : Int) (strOfNums (bytes8 m j)) ((8 - j : Nat) : Int) = some (x ++ strOfNums (bytes8 m 0)) := by
  intro j
  induction j with
  | zero =>
    intro k hi hk
    obtain ⟨k, rfl⟩ : ∃ q, k = q + 1 := ⟨k - 1, by omega⟩
    rw [strongroomref02_Pad.l1, if_neg (by omega), if_pos (by rw [str_size, bytes8_len]; omega)]
  | succ j ih =>
    intro k hi hk
    obtain ⟨k, rfl⟩ : ∃ q, k = q + 1 := ⟨k - 1, by omega⟩
    have hX : m / 2 ^ (64 - 8 * (j + 1)) / 256 = m / 2 ^ (64 - 8 * j) := by
      rw [Nat.div_div_eq_div_mul, show 64 - 8 * j = (64 - 8 * (j + 1)) + 8 from by omega, Nat.pow_add]
    have hb := bytes8_succ m j (by omega)
    rw [show 56 - 8 * j = 64 - 8 * (j + 1) from by omega] at hb
    have hX2 : m / 2 ^ (64 - 8 * (j + 1)) < 18446744073709551616 := Nat.lt_of_le_of_lt (Nat.div_le_self _ _) hm
    have ih := ih k (by omega) (by omega)
    rw [← hX] at ih
    generalize m / 2 ^ (64 - 8 * (j + 1)) = X at *
    have e1 : [(Int.tmod (X : Int) 256) % 256] = [((X % 256 : Nat) : Int)] := by
      rw [show (256 : Int) = ((256 : Nat) : Int) from rfl, tmod_nat]; congr 1; omega
    have e2 : IntKind.u64.wrap (Int.tdiv (X : Int) 256) = ((X / 256 : Nat) : Int) := by
      rw [Int.tdiv_eq_ediv_of_nonneg (Int.natCast_nonneg _), IntWalk.u64_in _ (by omega)]; simp
    have e3 : wrap64 (((8 - (j + 1) : Nat) : Int) + 1) = ((8 - j : Nat) : Int) := by unfold wrap64; omega
    rw [strongroomref02_Pad.l1, if_pos (by omega), e1]
    simp only [Option.bind_some]
    rw [if_pos (by rw [str_size, str_size, bytes8_len]; simp; omega), str_append, e2, e3, List.singleton_append, ← hb]
    exact ih
theorem str_rep (j : Nat) : strOfNums (128 :: List.replicate j 0) ++ (⟨#[0]⟩ : ByteArray) = strOfNums (128 :: List.replicate (j + 1) 0) := by
  rw [show (⟨#[0]⟩ : ByteArray) = strOfNums [0] from rfl, str_append, List.cons_append, ← List.replicate_succ']
theorem rpad_z (a j : Nat) (ha : a < 64) (hj : j < (119 - a) % 64) : ¬ (a + j + 1) % 64 = 56 := by omega
theorem rpad_z0 (a : Nat) (ha : a < 64) : (a + (119 - a) % 64 + 1) % 64 = 56 := by omega
theorem rpad_e (a j : Nat) (ha : a < 64) (hj : j ≤ 64) : wrap64 ((a : Int) + ((j + 1 : Nat) : Int)) = ((a + j + 1 : Nat) : Int) := by
  unfold wrap64; omega
theorem rpad_l0 (n : Nat) : ∀ (d j k : Nat), zN n - j = d → j ≤ zN n → d + 10 < k → strongroomref02_Pad.l0 k n (strOfNums (128 :: List.replicate j 0)) = some (strOfNums (padL n)) := by
  have hz : zN n < 64 := Nat.mod_lt _ (by omega)
  have h64 : Int.tmod (n : Int) 64 = ((n % 64 : Nat) : Int) := tmod_nat n 64
  have ha : n % 64 < 64 := Nat.mod_lt _ (by omega)
  have hl : ∀ j : Nat, ((strOfNums (128 :: List.replicate j 0)).size : Int) = ((j + 1 : Nat) : Int) := fun j => by rw [str_size]; simp
  intro d
  induction d with
  | zero =>
    intro j k hd hj hk
    obtain ⟨k, rfl⟩ : ∃ q, k = q + 1 := ⟨k - 1, by omega⟩
    obtain rfl : j = zN n := by omega
    have hc : ((n % 64 + zN n + 1 : Nat) : Int).tmod 64 = 56 := by
      have h := rpad_z0 (n % 64) ha
      rw [show (64 : Int) = ((64 : Nat) : Int) from rfl, tmod_nat]
      unfold zN; rw [h]; rfl
    rw [strongroomref02_Pad.l0, h64, hl, rpad_e _ _ ha (by omega), if_pos hc, pad_m]
    have h := rpad_l1 (strOfNums (128 :: List.replicate (zN n) 0)) (by rw [str_size, List.length_cons, List.length_replicate]; omega) (n * 8 % 18446744073709551616) (Nat.mod_lt _ (by omega)) 8 k (by omega) (by omega)
    rw [str_append, List.cons_append] at h
    rw [show (64 - 8 * 8 : Nat) = 0 from rfl, Nat.pow_zero, Nat.div_one] at h
    exact h
  | succ d ih =>
    intro j k hd hj hk
    obtain ⟨k, rfl⟩ : ∃ q, k = q + 1 := ⟨k - 1, by omega⟩
    have hc : ¬ ((n % 64 + j + 1 : Nat) : Int).tmod 64 = 56 := by
      have hlt : j < zN n := by omega
      have h := rpad_z (n % 64) j ha hlt
      rw [show (64 : Int) = ((64 : Nat) : Int) from rfl, tmod_nat]
      intro h2
      exact h (by exact_mod_cast h2)
    have hl2 : (strOfNums (128 :: List.replicate j 0)).size + 1 ≤ 9223372036854775807 := by rw [str_size, List.length_cons, List.length_replicate]; omega
    rw [strongroomref02_Pad.l0, h64, hl, rpad_e _ _ ha (by omega), if_neg hc, if_pos hl2, str_rep]
    exact ih (j + 1) k (by omega) (by omega) (by omega)
theorem rpad_f (n k : Nat) (hk : 74 < k) : strongroomref02_Pad.f k n = some (strOfNums (padL n)) := by
  have hz : zN n < 64 := Nat.mod_lt _ (by omega)
  have h := rpad_l0 n (zN n) 0 k rfl (by omega) (by omega)
  unfold strongroomref02_Pad.f
  rw [if_neg (by omega)]
  exact h
theorem rpad_c (n : Nat) (w : World) : Calls Try.prog 59 #[.int .i64 (n : Int)] w (Tells w (Is (.string (strOfNums (padL n))))) := by
  obtain ⟨k, hk⟩ : ∃ k : Nat, 74 < k := ⟨75, by omega⟩
  exact tells_is (strongroomref02_Pad.calls k n _ w (rpad_f n k hk))
end Go.Proofs.Ytimcafohmahapaa.F

-- ShaH
namespace Go.Proofs.Ytimcafohmahapaa.F
open Go Go.RowKit Go.Proofs.YtimcafohmahapaaW.PrintWords Go.Proofs.YtimcafohmahapaaW.PrintLast Go.Proofs.YtimcafohmahapaaW.PrintMore Go.Proofs.YtimcafohmahapaaR
set_option linter.unusedSimpArgs false
set_option linter.unusedVariables false
def blkL (l : List Int) (m : Nat) : List Int := (l.drop (64 * m)).take 64
/-- the state behind so many blocks -/
def after (ks s : List Nat) (l : List Int) : Nat → List Nat
  | 0 => s
  | m + 1 => mixL ks (after ks s l m) (blkL l m)
theorem after_len {ks s : List Nat} {l : List Int} (h : s.length = 8) : ∀ m, (after ks s l m).length = 8
  | 0 => h
  | m + 1 => mixL_len _ _ _
theorem after_words {ks s : List Nat} {l : List Int} (h : words s) : ∀ m, words (after ks s l m)
  | 0 => h
  | m + 1 => mixL_words _ _ _ (after_words h m)
theorem blkL_pre (l x : List Int) (m : Nat) (h : 64 * (m + 1) ≤ l.length) : blkL (l ++ x) m = blkL l m := by
  unfold blkL
  rw [List.drop_append_of_le_length (by omega), List.take_append_of_le_length (by rw [List.length_drop]; omega)]
theorem after_pre (ks s : List Nat) (l x : List Int) : ∀ m, 64 * m ≤ l.length → after ks s (l ++ x) m = after ks s l m
  | 0, _ => rfl
  | m + 1, h => by
    show mixL ks (after ks s (l ++ x) m) (blkL (l ++ x) m) = mixL ks (after ks s l m) (blkL l m)
    rw [after_pre ks s l x m (by omega), blkL_pre l x m h]
theorem after_add (ks s : List Nat) (l : List Int) (m : Nat) : ∀ j, after ks (after ks s l m) (l.drop (64 * m)) j = after ks s l (m + j)
  | 0 => rfl
  | j + 1 => by
    show mixL ks (after ks (after ks s l m) (l.drop (64 * m)) j) (blkL (l.drop (64 * m)) j) = mixL ks (after ks s l (m + j)) (blkL l (m + j))
    rw [after_add ks s l m j]
    congr 1
    unfold blkL
    rw [List.drop_drop]
    congr 2
    omega
/-- the state behind all whole blocks, and what waits -/
def stL (l : List Int) : List Nat := after kL s0L l (l.length / 64)
def restL (l : List Int) : List Int := l.drop (64 * (l.length / 64))
theorem restL_len (l : List Int) : (restL l).length = l.length % 64 := by unfold restL; rw [List.length_drop]; omega
theorem stL_len (l : List Int) : (stL l).length = 8 := after_len s0L_len _
theorem stL_words (l : List Int) : words (stL l) := after_words s0L_words _
/-- more bytes that fill no block -/
theorem stL_more (l x : List Int) (h : l.length % 64 + x.length < 64) : stL (l ++ x) = stL l ∧ restL (l ++ x) = restL l ++ x := by
  have e : (l ++ x).length / 64 = l.length / 64 := by rw [List.length_append]; omega
  unfold stL restL
  rw [e, after_pre _ _ _ _ _ (by omega), List.drop_append_of_le_length (by omega)]
  exact ⟨rfl, rfl⟩
/-- more bytes that fill a block -/
theorem stL_full (l x : List Int) (h : l.length % 64 + x.length = 64) : stL (l ++ x) = mixL kL (stL l) (restL l ++ x) ∧ restL (l ++ x) = [] := by
  have e : (l ++ x).length / 64 = l.length / 64 + 1 := by rw [List.length_append]; omega
  have e2 : (l ++ x).length = 64 * (l.length / 64 + 1) := by rw [List.length_append]; omega
  refine ⟨?_, ?_⟩
  · unfold stL
    rw [e]
    show mixL kL (after kL s0L (l ++ x) (l.length / 64)) (blkL (l ++ x) (l.length / 64)) = _
    rw [after_pre _ _ _ _ _ (by omega)]
    congr 1
    unfold blkL restL
    rw [List.drop_append_of_le_length (by omega), List.take_of_length_le (by rw [List.length_append, List.length_drop]; omega)]
  · unfold restL
    rw [e, ← e2, List.drop_length]
/-- the bytes of the words -/
def outW (x : Nat) : List Int := [((x / 16777216 % 256 : Nat) : Int), ((x / 65536 % 256 : Nat) : Int), ((x / 256 % 256 : Nat) : Int), ((x % 256 : Nat) : Int)]
def outL (s : List Nat) : List Int := s.flatMap outW
theorem outL_len : ∀ s : List Nat, (outL s).length = 4 * s.length
  | [] => rfl
  | x :: s => by
    show (outW x ++ outL s).length = _
    rw [List.length_append, outL_len s, List.length_cons]
    show 4 + 4 * s.length = _
    omega
theorem outL_append (a b : List Nat) : outL (a ++ b) = outL a ++ outL b := List.flatMap_append
theorem outL_succ (s : List Nat) (i : Nat) (h : i < s.length) : outL (s.take (i + 1)) = outL (s.take i) ++ outW (s.getD i 0) := by
  rw [List.take_add_one, outL_append, List.getElem?_eq_getElem h, List.getD_eq_getElem?_getD, List.getElem?_eq_getElem h]
  show outL (s.take i) ++ (outW s[i] ++ []) = _
  rw [List.append_nil]; rfl
/-- all with its padding -/
def fullL (l : List Int) : List Int := l ++ padL l.length
theorem zN_fill (n : Nat) : (n + (zN n + 9)) % 64 = 0 := by
  have h := pad_z0 (n % 64) (Nat.mod_lt _ (by omega))
  unfold zN
  omega
theorem fullL_len (l : List Int) : (fullL l).length % 64 = 0 := by
  unfold fullL
  rw [List.length_append, padL_len]
  exact zN_fill _
/-- the digest -/
def shaL (l : List Int) : List Int := outL (after kL s0L (fullL l) ((fullL l).length / 64))
theorem shaL_len (l : List Int) : (shaL l).length = 32 := by
  unfold shaL
  rw [outL_len, after_len s0L_len]
/-- from what waits on -/
theorem shaL_rest (l : List Int) : after kL (stL l) (restL l ++ padL l.length) ((restL l ++ padL l.length).length / 64) = after kL s0L (fullL l) ((fullL l).length / 64) ∧ (restL l ++ padL l.length).length % 64 = 0 := by
  have e : restL l ++ padL l.length = (fullL l).drop (64 * (l.length / 64)) := by
    unfold fullL restL
    rw [List.drop_append_of_le_length (by omega)]
  have e1 : stL l = after kL s0L (fullL l) (l.length / 64) := by
    unfold stL fullL
    rw [after_pre _ _ _ _ _ (by omega)]
  have hf := fullL_len l
  have hle : l.length ≤ (fullL l).length := by unfold fullL; rw [List.length_append]; omega
  rw [e, e1, after_add, List.length_drop]
  refine ⟨?_, by omega⟩
  congr 1
  omega
theorem padL_bytes (n : Nat) : ∀ y ∈ padL n, 0 ≤ y ∧ y < 256 := by
  intro y hy
  unfold padL at hy
  rcases List.mem_cons.1 hy with h | h
  · omega
  · rcases List.mem_append.1 h with h | h
    · have := List.eq_of_mem_replicate h; omega
    · unfold bytes8 at h
      obtain ⟨j, -, rfl⟩ := List.mem_map.1 h
      have := Nat.mod_lt (n * 8 % 18446744073709551616 / 2 ^ (56 - 8 * j)) (by omega : 0 < 256)
      generalize n * 8 % 18446744073709551616 / 2 ^ (56 - 8 * j) % 256 = z at this
      omega
/-- the memory of a Hash that has eaten these bytes; the count may be ahead -/
structure HashA (g N : Nat) (l : List Int) (rv : Value) (B : Nat) (w : World) : Prop where
  low : B ≤ g
  cells : Blk w g 93 (hashC kL (stL l) rv N)
  row : w.ownsRow B 5 1 rv (restL l).length (nums .u8 (restL l))
  far : ∀ k, rv.ownBlock = some k → k ≠ g
  bytes : ∀ x ∈ l, 0 ≤ x ∧ x < 256
/-- the blocks that it may write -/
def HS (g : Nat) (rv : Value) : Nat → Prop := fun k => k = g ∨ rv.ownBlock = some k
/-- a Hash, wherever what waits lies by now -/
def HashB (g N : Nat) (l : List Int) (B : Nat) (w0 w : World) (rv : Value) : Prop := ∃ rv', HashA g N l rv' B w ∧ (∀ k, rv'.ownBlock = some k → rv.ownBlock = some k ∨ w0.heap.size ≤ k)
theorem HashA.grew {g N : Nat} {l : List Int} {rv : Value} {B : Nat} {w w' : World} (h : HashA g N l rv B w) (hg : Grew w w') : HashA g N l rv B w' :=
  ⟨h.low, h.cells.grew hg, pw_own_below h.row hg, h.far, h.bytes⟩
theorem HashA.upd {g N : Nat} {l : List Int} {rv : Value} {B : Nat} {w w' : World} {S : Nat → Prop} (h : HashA g N l rv B w) (hu : Upd S w w') (hS : ∀ k, HS g rv k → ¬ S k) : HashA g N l rv B w' :=
  ⟨h.low, h.cells.upd hu (hS _ (.inl rfl)), hu.own h.row (fun k hk => hS k (.inr hk)), h.far, h.bytes⟩
theorem stL_nil : stL [] = s0L := rfl
theorem new_h (w : World) : Calls Try.prog 44 #[] w (Tells w (fun w' v => ∃ g, v = .pointer (some ⟨g, 0, none⟩) ∧ HashA g 0 [] (.slice none 0 0) w.heap.size w')) := by
  refine (new_c w).mono ?_
  rintro e w1 ⟨v, rfl, ⟨g, rfl, hg, hb⟩, hg1⟩
  exact ⟨_, rfl, ⟨g, rfl, hg, by rw [stL_nil]; exact hb, own_nil _ _ _ _, fun k hk => by simp [Value.ownBlock] at hk, by simp⟩, hg1⟩
end Go.Proofs.Ytimcafohmahapaa.F

-- ShaW
namespace Go.Proofs.Ytimcafohmahapaa.F
open Go Go.RowKit Go.Proofs.YtimcafohmahapaaW.PrintWords Go.Proofs.YtimcafohmahapaaW.PrintLast Go.Proofs.YtimcafohmahapaaW.PrintMore Go.Proofs.YtimcafohmahapaaR
attribute [local go_sem] max2_int min2_int max_two min_two
set_option linter.unusedSimpArgs false
set_option linter.unusedVariables false
set_option maxRecDepth 100000
def sliceLen : Value → Nat
  | .slice _ n _ => n
  | _ => 0
theorem HashA.count {g N M : Nat} {l : List Int} {rv : Value} {B : Nat} {w : World} (h : HashA g N l rv B w) : HashA g M l rv B (w.setCell ⟨g, 73, none⟩ (.int .i64 (M : Int))) :=
  ⟨h.low, by have := h.cells.set 73 (.int .i64 (M : Int)); rwa [hashC_set_n kL_len (stL_len _)] at this, (Upd.set (S := fun k => k = g) (p := ⟨g, 73, none⟩) (Upd.refl _ _) (.inl rfl) _).own h.row (fun k hk he => h.far k hk he), h.far, h.bytes⟩
theorem hashC_range {w : World} {g : Nat} {t : TypeId} {ks s : List Nat} {rv : Value} {n : Nat} (h : Blk w g t (hashC ks s rv n)) (h1 : ks.length = 64) : w.rangeAt g 64 (wcells s) := by
  have e := Blk.range (a := wcells ks) (b := wcells s) (c := [rv, .int .i64 (n : Int)]) h
  rw [wcells_len, h1] at e
  exact e
theorem hashC_there {w : World} {g : Nat} {t : TypeId} {ks s : List Nat} {rv : Value} {n : Nat} (h : Blk w g t (hashC ks s rv n)) (h1 : ks.length = 64) (h2 : s.length = 8) : w.there g 64 8 := by
  have e := Blk.there_ (a := wcells ks) (b := wcells s) (c := [rv, .int .i64 (n : Int)]) h
  rw [wcells_len, wcells_len, h1, h2] at e
  exact e
theorem hashC_lies {w : World} {g : Nat} {t : TypeId} {ks s : List Nat} {rv : Value} {n : Nat} (h : Blk w g t (hashC ks s rv n)) : Lies w g ks := fun i hi => by
  rw [h.at_]
  unfold hashC
  rw [List.getElem?_append_left (by rw [wcells_len]; exact hi), cells_get _ _ hi]
theorem wpList_store_list {P : Program} {ops : Array Oper} {rest : List Oper} {op : Oper} {a : Act} {w : World} {Q : Exit → Act → World → Prop} (hgd : op.guard = none) (ty : TypeId) (x y : Operand) (ho : op.op = .store ty x y)
    (b o : Nat) (c : List Value) (hx : a.eval x = .pointer (some ⟨b, o, none⟩)) (hy : a.eval y = .agg c.toArray)
    (ht : w.there b o c.length) (hi : (P.info? ty).map (·.size) = some c.length) (h1 : c.toArray.all (·.oneCell') = true)
    (h : wpList P ops Q rest (a.put op.dst undef) (w.setCells b o c)) : wpList P ops Q (op :: rest) a w :=
  wpList_store_mid hgd ty x y ho b o c.toArray hx hy (by simpa using ht) (by simpa using hi) h1 h
set_option maxHeartbeats 4000000 in
theorem write_c {g : Nat} {l : List Int} {rv : Value} {B : Nat} (w : World) (A : Option Addr) (c : Nat) (x : List Int) (h : HashA g l.length l rv B w) (hBw : B ≤ w.heap.size)
    (hr : ∀ w', Upd (HS g rv) w w' → Kd.C (Kd.int .u8) w' A x.length x) (hc : x.length ≤ c) (hl : l.length + x.length ≤ 1000000000) (hb : ∀ y ∈ x, 0 ≤ y ∧ y < 256) :
    Calls Try.prog 45 #[.pointer (some ⟨g, 0, none⟩), .slice A x.length c] w (Does (HS g rv) w (fun w' v => v = .tuple #[] ∧ HashB g (l.length + x.length) (l ++ x) B w w' rv)) := by
  have HR := Lib.hid hr
  have HB := Lib.hid hb
  have H0 := Lib.hid h
  have c1 := h.cells.at_ 73
  rw [hashC_n kL_len (stL_len _)] at c1
  have c2 := h.cells.fz 73
  have e1 : IntKind.i64.wrap ((l.length : Int) + (x.length : Int)) = ((l.length + x.length : Nat) : Int) := by rw [IntWalk.i64_in _ (by omega)]; omega
  obtain ⟨N, hN⟩ : ∃ N, N = l.length + x.length := ⟨_, rfl⟩
  obtain ⟨n0, hn0⟩ : ∃ n, n = l.length := ⟨_, rfl⟩
  obtain ⟨nx, hnx⟩ : ∃ n, n = x.length := ⟨_, rfl⟩
  rw [← hN] at e1 ⊢
  rw [← hn0] at e1 c1
  rw [← hnx] at e1 ⊢
  have HN := Lib.hid hN
  have HN0 := Lib.hid hn0
  have HNX := Lib.hid hnx
  have HL := Lib.hid hl
  have hcx : nx ≤ c := by omega
  clear hr hb h hN hn0 hnx hl hc
  go_enter Try.func45, Try.ntmps45
  go_wp2_with fail
  have hw0 : HashA g N l rv B (w.setCell ⟨g, 73, none⟩ (.int .i64 (N : Int))) := H0.out.count
  have hu0 : Upd (HS g rv) w (w.setCell ⟨g, 73, none⟩ (.int .i64 (N : Int))) := Upd.set (p := ⟨g, 73, none⟩) (Upd.refl _ _) (.inl (.inl rfl)) _
  obtain ⟨W, hW⟩ : ∃ W, W = w.setCell ⟨g, 73, none⟩ (.int .i64 (N : Int)) := ⟨_, rfl⟩
  rw [← hW] at hw0 hu0 ⊢
  clear hW c1 c2 e1 H0
  go_loopw [1] (fun bv wr => ∃ (pre suf : List Int) (rv' : Value) (A' : Option Addr) (c' m : Nat), bv = .slice A' m c' ∧ x = pre ++ suf ∧ suf.length = m ∧ m ≤ c' ∧ HashA g N (l ++ pre) rv' B wr ∧ (∀ k, rv'.ownBlock = some k → rv.ownBlock = some k ∨ w.heap.size ≤ k) ∧ Upd (HS g rv) w wr ∧ (∀ w', Upd (HS g rv) w w' → Kd.C (Kd.int .u8) w' A' m suf)) (fun bv _ => sliceLen bv)
  case atStart => exact ⟨[], x, rv, A, c, nx, rfl, rfl, HNX.out.symm, hcx, by rw [List.append_nil]; exact hw0, fun k hk => .inl hk, hu0, by rw [HNX.out]; exact HR.out⟩
  case round =>
    obtain ⟨pre, suf, rv', A', c', m, rfl, hx, hm, hmc, hh, hfr, hu, hC⟩ := hrel
    clear hw0 hu0 HR hcx
    have HXX := Lib.hid hx
    have HM := Lib.hid hm
    have HC := Lib.hid hC
    have HH := Lib.hid hh
    by_cases h0 : 0 < m
    · have d1 : decide (0 < (m : Int)) = true := decide_eq_true (by omega)
      have d1' : decide (0 < m) = true := decide_eq_true (by omega)
      have hrl : (restL (l ++ pre)).length < 64 := by rw [restL_len]; omega
      have c1 := hh.cells.at_ 72
      rw [hashC_rv kL_len (stL_len _)] at c1
      obtain ⟨Ar, cr, rfl⟩ := own_slice hh.row
      obtain ⟨nr, hnr⟩ : ∃ n, n = (restL (l ++ pre)).length := ⟨_, rfl⟩
      rw [← hnr] at c1 hrl hfr HH
      have HRow := Lib.hid (show wr.ownsRow B 5 1 (.slice Ar nr cr) (restL (l ++ pre)).length (nums .u8 (restL (l ++ pre))) from by rw [hnr]; exact hh.row)
      have HFR := Lib.hid hfr
      have HU := Lib.hid hu
      have C1 := Lib.hid c1
      have HNR := Lib.hid hnr
      obtain ⟨d, hd⟩ : ∃ d, d = 64 - nr := ⟨_, rfl⟩
      have e1 : IntKind.i64.wrap (64 - (nr : Int)) = (d : Int) := by rw [IntWalk.i64_in _ (by omega)]; omega
      obtain ⟨k, hk⟩ : ∃ k, k = min d m := ⟨_, rfl⟩
      have m1 : (if (d : Int) ≤ (m : Int) then (d : Int) else (m : Int)) = (k : Int) := by split <;> omega
      have m2 : (if d ≤ m then (d : Int) else (m : Int)) = (k : Int) := by split <;> omega
      have m4 : (if m < d then (m : Int) else (d : Int)) = (k : Int) := by split <;> omega
      have m5 : (if (m : Int) < (d : Int) then (m : Int) else (d : Int)) = (k : Int) := by split <;> omega
      have m3 : min (d : Int) (m : Int) = (k : Int) := by omega
      have hkm : k ≤ m := by omega
      have hk64 : nr + k ≤ 64 := by omega
      have HK := Lib.hid hk
      have HD := Lib.hid hd
      have k0 : 0 < k := by omega
      have hkc : k ≤ c' := by omega
      have hkci : (k : Int) ≤ (c' : Int) := by omega
      have hkmi : (k : Int) ≤ (m : Int) := by omega
      obtain ⟨q, hq⟩ : ∃ q, q = nr + k := ⟨_, rfl⟩
      have hBr : B ≤ wr.heap.size := Nat.le_trans hBw hu.size
      obtain ⟨A2, hs2, hr2⟩ := print_cut (P := Try.prog) 23 5 .i64 (i := _) Try.underlying23 (by rfl) (by rfl) A' m c' k hkm
      obtain ⟨mr, hmr⟩ : ∃ mr, mr = m - k := ⟨_, rfl⟩
      obtain ⟨c3, hc3⟩ : ∃ c3, c3 = c' - k := ⟨_, rfl⟩
      rw [← hmr, ← hc3] at hs2
      rw [← hmr] at hr2
      have HR2 := Lib.hid hr2
      have HQ := Lib.hid hq
      have HM2 := Lib.hid hmr
      have HC2 := Lib.hid hc3
      have hlr := own_lt hh.row
      rw [← hnr] at hlr
      have hfar := hh.far
      rw [← hnr] at hfar
      have HFar := Lib.hid hfar
      have HLr := Lib.hid hlr
      have HCells := Lib.hid hh.cells
      rw [← hnr] at HCells
      clear hx hm hC hh hnr hk hd hq hmr hc3 hr2 hlr hfar hfr hu
      go_wp2_with fail
      clear c1
      apply region_big (fun w w' => w.grownBy w' (Value.slice Ar nr cr).ownBlock) [.float, .plain, .plain, .plain, .plain, .plain, .plain, .plain, .big] [Is _, Is _, Is _, Is _, Is _, Is _, Is _, Is _, AppV B 5 (nums .u8 (restL (l ++ pre) ++ suf.take k)) q (.slice Ar nr cr) wr.heap.size] [([(0, none)], none), ([(0, none)], none), ([(29, some 1)], none), ([(30, some 2)], none), ([(31, some 3)], none), ([(1, none)], none), ([(4, none)], none), ([(33, some 5), (34, some 6)], none), ([(32, some 4), (35, some 7)], none)] [(36, 8), (28, 0), (29, 1), (30, 2), (31, 3), (32, 4), (33, 5), (34, 6), (35, 7)] rfl (by kernel_rfl) (by kernel_rfl) (by kernel_rfl) (by kernel_rfl) rfl (show StableB Grew _ _ _ from ⟨(fun _ => Is.stableB _), (fun _ => Is.stableB _), (fun _ => Is.stableB _), (fun _ => Is.stableB _), (fun _ => Is.stableB _), (fun _ => Is.stableB _), (fun _ => Is.stableB _), (fun _ => Is.stableB _), (fun h_ => absurd rfl h_), trivial⟩)
      · show PhHold _ _ _ _ _ _ _ _ _ _ _
        refine ⟨fun a_ wx hD K hK => ?_, ?_⟩
        · have hF_ := True.intro
          simp [Deps, Dep, at_, Is] at hD
          go_simp
          exact hK _ _ rfl rfl
        refine ⟨fun a_ wx hR hD K hK => ?_, ?_⟩
        · have hG : Grew wr wx := (Grew.drew _).trans hR
          simp [Deps, Dep, at_, Is] at hD
          go_simp
          exact hK _ _ (Grew.refl _) rfl
        refine ⟨fun a_ wx hR hD K hK => ?_, ?_⟩
        · have hG : Grew wr wx := (Grew.drew _).trans hR
          simp [Deps, Dep, at_, Is] at hD
          go_simp
          exact hK _ _ (Grew.refl _) rfl
        refine ⟨fun a_ wx hR hD K hK => ?_, ?_⟩
        · have hG : Grew wr wx := (Grew.drew _).trans hR
          simp [Deps, Dep, at_, Is] at hD
          go_simp
          exact hK _ _ (Grew.refl _) rfl
        refine ⟨fun a_ wx hR hD K hK => ?_, ?_⟩
        · have hG : Grew wr wx := (Grew.drew _).trans hR
          simp [Deps, Dep, at_, Is] at hD
          have e_ := pw_cell_below hG C1.out
          go_simp
          exact hK _ _ (Grew.refl _) rfl
        refine ⟨fun a_ wx hR hD K hK => ?_, ?_⟩
        · have hG : Grew wr wx := (Grew.drew _).trans hR
          simp [Deps, Dep, at_, Is] at hD
          go_simp
          exact hK _ _ (Grew.refl _) rfl
        refine ⟨fun a_ wx hR hD K hK => ?_, ?_⟩
        · have hG : Grew wr wx := (Grew.drew _).trans hR
          simp [Deps, Dep, at_, Is] at hD
          go_simp
          exact hK _ _ (Grew.refl _) rfl
        refine ⟨fun a_ wx hR hD K hK => ?_, ?_⟩
        · have hG : Grew wr wx := (Grew.drew _).trans hR
          simp [Deps, Dep, at_, Is] at hD
          obtain ⟨hd0, hd1⟩ := hD
          go_simp
          exact hK _ _ (Grew.refl _) rfl
        refine ⟨⟨rfl, fun a_ wx hR hD K hK => ?_⟩, ?_⟩
        · have hG : Grew wr wx := (Grew.drew _).trans hR
          simp [Deps, Dep, at_, Is] at hD
          obtain ⟨hd0, hd1⟩ := hD
          obtain ⟨v1, wy, hrun, hown1, hgr1, hat1⟩ := app_num (P := Try.prog) (k := .u8) wx B 23 5 23 1 Try.underlying23 info5 (by decide) _ (restL (l ++ pre)) (suf.take k) _ k c' (pw_own_below HRow.out hG) ((reads_of (HC.out wx (HU.out.trans (Upd.of_grew hG)))).take_ k hkm) (Nat.le_trans hBr hG.size) (by rw [← HNR.out]; omega)
          exact wp_app (.tmp 32) (.tmp 35) 23 rfl (eval_tmp hd0) (eval_tmp hd1) hrun (hK _ _ hgr1 ⟨by rw [show q = (restL (l ++ pre) ++ suf.take k).length from by rw [List.length_append, List.length_take, HM.out, ← HNR.out, HQ.out]; omega]; exact hown1, hat1.imp id (fun h => ⟨_, h, hG.size⟩)⟩)
        trivial
      · show EndHold _ _ _ _ _ _ _
        intro v36
        refine end_all (xs := [_, _, _, _, _, _, _, _]) ⟨rfl, rfl, rfl, rfl, rfl, rfl, rfl, rfl, trivial⟩ ?_
        rintro w4 hR1 ⟨-, hApp⟩
        refine ⟨?_⟩
        obtain ⟨wm_w4, hRm, hP_w4⟩ := hR1
        have hG_w4 : Grew wr wm_w4 := (Grew.drew _).trans hRm
        clear hRm
        simp only [Act.put, List.setIfInBounds_toArray, List.set_cons_succ, List.set_cons_zero, dropN, putEach]
        obtain ⟨hro, hat⟩ := hApp
        have hq0 : 0 < q := by rw [HQ.out]; omega
        obtain ⟨gv, cap, rfl, hgv1, hgv2, hgv3⟩ := own_head hro hq0
        have hu4 : Upd (fun j => (Value.slice Ar nr cr).ownBlock = some j) wr w4 := (Upd.of_grew hG_w4).grown hP_w4 (fun j hj => .inl hj)
        have hgvg : gv ≠ g := by
          rcases hat with h | ⟨j, h, hj⟩
          · exact HFar.out gv h.symm
          · have : gv = j := by simpa [Value.ownBlock] using h
            have := HCells.out.lt
            omega
        have hfr4 : ∀ j, (Value.slice (some ⟨gv, 0, none⟩) q cap).ownBlock = some j → rv.ownBlock = some j ∨ w.heap.size ≤ j := fun j hj => by
          rcases hat with h | ⟨j', h, hj'⟩
          · exact HFR.out j (h.symm.trans hj)
          · rw [h] at hj
            obtain rfl := Option.some.inj hj
            exact .inr (Nat.le_trans HU.out.size hj')
        have hcl4 := HCells.out.upd hu4 (fun hk => HFar.out g hk rfl)
        have hu4' : Upd (HS g rv) w w4 := HU.out.then_ hu4 (fun j hj hj2 => (HFR.out j hj2).elim (fun h => .inr h) (fun h => by omega))
        have hsu : Upd (fun j => j = g) w4 (w4.setCell ⟨g, 72, none⟩ (.slice (some ⟨gv, 0, none⟩) q cap)) := Upd.set (S := fun j => j = g) (p := ⟨g, 72, none⟩) (Upd.refl _ _) (.inl rfl) _
        have hcl5 := hcl4.set 72 (.slice (some ⟨gv, 0, none⟩) q cap)
        rw [hashC_set_rv kL_len (stL_len _)] at hcl5
        have hro5 := hsu.own hro (fun j hj h => hgvg (by
          have : gv = j := by simpa [Value.ownBlock] using hj
          omega))
        have hu5 := hu4'.trans (hsu.mono fun j _ h => .inl h)
        have z1 := hcl4.at_ 72
        rw [hashC_rv kL_len (stL_len _)] at z1
        have z2 := hcl4.fz 72
        obtain ⟨W5, hW5⟩ : ∃ W5, W5 = w4.setCell ⟨g, 72, none⟩ (.slice (some ⟨gv, 0, none⟩) q cap) := ⟨_, rfl⟩
        have z3 := hcl5.at_ 72
        rw [hashC_rv kL_len (stL_len _)] at z3
        have hb5 : ∀ y ∈ l ++ pre ++ suf.take k, 0 ≤ y ∧ y < 256 := fun y hy => (List.mem_append.1 hy).elim (HH.out.bytes y) (fun h => HB.out y (by rw [HXX.out]; exact List.mem_append_right _ (List.mem_of_mem_take h)))
        have hC5 : ∀ w', Upd (HS g rv) w w' → Kd.C (Kd.int .u8) w' A2 mr (suf.drop k) := fun w' hu => C_of (HR2.out w' .u8 suf hmc (reads_of (HC.out w' hu)))
        have hx5 : x = (pre ++ suf.take k) ++ suf.drop k := by rw [List.append_assoc, List.take_append_drop]; exact HXX.out
        have hm5 : (suf.drop k).length = mr := by rw [List.length_drop, HM.out, HM2.out]
        have hc5 : mr ≤ c3 := by rw [HM2.out, HC2.out]; omega
        have hmlt : mr < m := by rw [HM2.out]; omega
        have hyl : (suf.take k).length = k := by rw [List.length_take, HM.out]; omega
        rw [← hW5] at hsu hcl5 hro5 hu5 z3
        have HB5 := Lib.hid hb5
        have HC5 := Lib.hid hC5
        have HX5 := Lib.hid hx5
        have HM5 := Lib.hid hm5
        have HYL := Lib.hid hyl
        have HCL5 := Lib.hid hcl5
        have HRO5 := Lib.hid hro5
        have HU5 := Lib.hid hu5
        have HF4 := Lib.hid hfr4
        have HW5 := Lib.hid hW5
        have Z1 := Lib.hid z1
        have Z2 := Lib.hid z2
        have Z3 := Lib.hid z3
        clear hb5 hC5 hx5 hm5 hyl hcl5 hro5 hu5 hfr4 hsu hcl4 hu4' hu4 hro hat HC HXX HM HRow HFR HFar HLr HCells C1 z3 hgv1 hP_w4 hG_w4 m1 m2 m3 m4 m5 e1
        by_cases hq64 : q = 64
        · subst hq64
          have z3 := Z3.out
          rw [HW5.out] at z3
          go_wp2_with fail
          clear z1 z2 z3
          rw [← HW5.out]
          have hn64 : (restL (l ++ pre) ++ suf.take k).length = 64 := by rw [List.length_append, HYL.out, ← HNR.out]; exact HQ.out.symm
          have hby : ∀ y ∈ restL (l ++ pre) ++ suf.take k, 0 ≤ y ∧ y < 256 := fun y hy => HB5.out y ((List.mem_append.1 hy).elim (fun h => List.mem_append_left _ (List.mem_of_mem_drop h)) (fun h => List.mem_append_right _ h))
          have hmod : (l ++ pre).length % 64 + (suf.take k).length = 64 := by rw [← restL_len, ← List.length_append]; exact hn64
          have hfull := stL_full (l ++ pre) (suf.take k) hmod
          obtain ⟨S1, hS1⟩ : ∃ S1, S1 = stL (l ++ pre) := ⟨_, rfl⟩
          have hs1l : S1.length = 8 := by rw [hS1]; exact stL_len _
          have hs1w : words S1 := by rw [hS1]; exact stL_words _
          rw [← hS1] at hfull HCL5
          obtain ⟨Y, hY⟩ : ∃ Y, Y = restL (l ++ pre) ++ suf.take k := ⟨_, rfl⟩
          rw [← hY] at hn64 hby hfull HRO5
          have HFull := Lib.hid hfull
          have HN64 := Lib.hid hn64
          have HBY := Lib.hid hby
          have HS1 := Lib.hid hs1l
          have HSW := Lib.hid hs1w
          have hcry : ∀ w', Grew W5 w' → Kd.C (Kd.int .u8) w' (some ⟨gv, 0, none⟩) 64 Y := fun w' hg => by
            have h1 := own_reads' (pw_own_below HRO5.out hg)
            exact C_of h1
          have HCR := Lib.hid hcry
          clear hfull hn64 hby hs1l hs1w hcry hmod hS1 hY
          apply region_grew [Is _, Is _, Is _, Is _, Is _, Is _, Is _, Is _, Is _, Is _, Is _, Is _, Is _] [([(0, none)], none), ([(0, none)], none), ([(49, some 1)], none), ([(50, some 2)], none), ([(0, none)], none), ([(52, some 4)], none), ([(53, some 5)], none), ([(54, some 6)], none), ([(0, none)], none), ([(56, some 8)], none), ([(57, some 9)], none), ([(58, some 10)], none), ([(51, some 3), (55, some 7), (59, some 11)], none)] [(48, 0), (49, 1), (50, 2), (51, 3), (52, 4), (53, 5), (54, 6), (55, 7), (56, 8), (57, 9), (58, 10), (59, 11), (60, 12)] rfl (by kernel_rfl) (by kernel_rfl) (show Stable Grew _ from ⟨Is.stable _, Is.stable _, Is.stable _, Is.stable _, Is.stable _, Is.stable _, Is.stable _, Is.stable _, Is.stable _, Is.stable _, Is.stable _, Is.stable _, Is.stable _, trivial⟩)
          · show OpsHold _ _ _ _ _ _ _ _ _
            refine ⟨fun a_ wx hR hD K hK => ?_, ?_⟩
            · have hG : Grew W5 wx := (Grew.drew _).trans hR
              simp [Deps, Dep, at_, Is] at hD
              go_simp
              exact hK _ _ (Grew.refl _) rfl
            refine ⟨fun a_ wx hR hD K hK => ?_, ?_⟩
            · have hG : Grew W5 wx := (Grew.drew _).trans hR
              simp [Deps, Dep, at_, Is] at hD
              go_simp
              exact hK _ _ (Grew.refl _) rfl
            refine ⟨fun a_ wx hR hD K hK => ?_, ?_⟩
            · have hG : Grew W5 wx := (Grew.drew _).trans hR
              simp [Deps, Dep, at_, Is] at hD
              go_simp
              exact hK _ _ (Grew.refl _) rfl
            refine ⟨fun a_ wx hR hD K hK => ?_, ?_⟩
            · have hG : Grew W5 wx := (Grew.drew _).trans hR
              simp [Deps, Dep, at_, Is] at hD
              go_simp
              exact hK _ _ (Grew.refl _) rfl
            refine ⟨fun a_ wx hR hD K hK => ?_, ?_⟩
            · have hG : Grew W5 wx := (Grew.drew _).trans hR
              simp [Deps, Dep, at_, Is] at hD
              go_simp
              exact hK _ _ (Grew.refl _) rfl
            refine ⟨fun a_ wx hR hD K hK => ?_, ?_⟩
            · have hG : Grew W5 wx := (Grew.drew _).trans hR
              simp [Deps, Dep, at_, Is] at hD
              go_simp
              exact hK _ _ (Grew.refl _) rfl
            refine ⟨fun a_ wx hR hD K hK => ?_, ?_⟩
            · have hG : Grew W5 wx := (Grew.drew _).trans hR
              simp [Deps, Dep, at_, Is] at hD
              go_simp
              exact hK _ _ (Grew.refl _) rfl
            refine ⟨fun a_ wx hR hD K hK => ?_, ?_⟩
            · have hG : Grew W5 wx := (Grew.drew _).trans hR
              simp [Deps, Dep, at_, Is] at hD
              exact wp_load_mid 91 (.tmp 54) rfl g 64 (eval_tmp hD) (wcells S1) _ (hashC_range (HCL5.out.grew hG) kL_len) Try.underlying91 (by rfl) (by rw [wcells_len, HS1.out]; kernel_rfl) (hK _ _ (Grew.refl _) rfl)
            refine ⟨fun a_ wx hR hD K hK => ?_, ?_⟩
            · have hG : Grew W5 wx := (Grew.drew _).trans hR
              simp [Deps, Dep, at_, Is] at hD
              go_simp
              exact hK _ _ (Grew.refl _) rfl
            refine ⟨fun a_ wx hR hD K hK => ?_, ?_⟩
            · have hG : Grew W5 wx := (Grew.drew _).trans hR
              simp [Deps, Dep, at_, Is] at hD
              go_simp
              exact hK _ _ (Grew.refl _) rfl
            refine ⟨fun a_ wx hR hD K hK => ?_, ?_⟩
            · have hG : Grew W5 wx := (Grew.drew _).trans hR
              simp [Deps, Dep, at_, Is] at hD
              go_simp
              exact hK _ _ (Grew.refl _) rfl
            refine ⟨fun a_ wx hR hD K hK => ?_, ?_⟩
            · have hG : Grew W5 wx := (Grew.drew _).trans hR
              simp [Deps, Dep, at_, Is] at hD
              have e_ := pw_cell_below hG Z3.out
              go_simp
              exact hK _ _ (Grew.refl _) rfl
            refine ⟨fun a_ wx hR hD K hK => ?_, ?_⟩
            · have hG : Grew W5 wx := (Grew.drew _).trans hR
              simp [Deps, Dep, at_, Is] at hD
              obtain ⟨hd0, hd1, hd2⟩ := hD
              go_simp
              have hcn := mix_c wx g kL S1 (some ⟨gv, 0, none⟩) cap Y (hashC_lies (HCL5.out.grew hG)) kL_len kL_words HS1.out HSW.out HN64.out HBY.out (HCR.out wx hG) hgv3
              with_reducible refine hcn.mono ?_
              clear hcn
              rintro e wy ⟨v, rfl, hv, hg⟩
              exact hK _ _ hg hv
            trivial
          · show EndHold _ _ _ _ _ _ _
            refine end_all (xs := [_, _, _, _, _, _, _, _, _, _, _, _, _]) ⟨rfl, rfl, rfl, rfl, rfl, rfl, rfl, rfl, rfl, rfl, rfl, rfl, rfl, trivial⟩ ?_
            rintro w6 hR1 -
            refine ⟨?_⟩
            have hG_w6 : Grew W5 w6 := (Grew.drew _).trans hR1
            clear hR1
            simp only [Act.put, List.setIfInBounds_toArray, List.set_cons_succ, List.set_cons_zero, dropN, putEach]
            have hcl6 := HCL5.out.grew hG_w6
            obtain ⟨M, hM⟩ : ∃ M, M = mixL kL S1 Y := ⟨_, rfl⟩
            rw [← hM] at HFull ⊢
            have hml : M.length = 8 := by rw [hM]; exact mixL_len _ _ _
            have hth : w6.there g 64 (wcells M).length := by rw [wcells_len, hml]; exact hashC_there hcl6 kL_len HS1.out
            have hcl7 := Blk.setCells (wcells M) 64 hcl6
            rw [hashC_setL kL_len M (by rw [hml, HS1.out])] at hcl7
            have hu6 := HU5.out.trans (Upd.of_grew hG_w6)
            have hu7 : Upd (HS g rv) w (w6.setCells g 64 (wcells M)) := Upd.setCells (.inl (.inl rfl)) _ _ hu6
            have hro6 := pw_own_below HRO5.out hG_w6
            have hro7 := (Upd.setCells (S := fun j => j = g) (g := g) (.inl rfl) (wcells M) 64 (Upd.refl _ w6)).own hro6 (fun j hj h => hgvg (by
              have : gv = j := by simpa [Value.ownBlock] using hj
              omega))
            have y1 := hcl7.at_ 72
            rw [hashC_rv kL_len hml] at y1
            have y2 := hcl7.fz 72
            have HML := Lib.hid hml
            have HTH := Lib.hid hth
            have HCL7 := Lib.hid hcl7
            have HU7 := Lib.hid hu7
            have HRO7 := Lib.hid hro7
            clear hM hml hth hcl6 hcl7 hu6 hu7 hro6 hro7
            have g1 : 0 ≤ cap := Nat.zero_le _
            go_wp2_with (refine wpList_store_list (by rfl) 91 (.tmp 62) (.tmp 60) (by rfl) g 64 (wcells M) (by rfl) (by rfl) HTH.out (by rw [wcells_len, HML.out]; kernel_rfl) (wcells_one _) ?_)
            go_roundw
            case rel =>
              refine ⟨pre ++ suf.take k, suf.drop k, .slice (some ⟨gv, 0, none⟩) 0 cap, A2, c3, mr, rfl, HX5.out, HM5.out, hc5, ⟨HH.out.low, ?_, ?_, ?_, ?_⟩, HF4.out, HU7.out.set (.inl (.inl rfl)) _, HC5.out⟩
              · have h := HCL7.out.set 72 (.slice (some ⟨gv, 0, none⟩) 0 cap)
                rw [hashC_set_rv kL_len HML.out] at h
                rw [← List.append_assoc, HFull.out.1]
                exact h
              · rw [← List.append_assoc, HFull.out.2]
                exact own_take (Upd.own (Upd.set (S := fun j => j = g) (p := ⟨g, 72, none⟩) (Upd.refl _ _) (.inl rfl) _) HRO7.out (fun j hj h => hgvg (by
                  have : gv = j := by simpa [Value.ownBlock] using hj
                  omega))) (Nat.zero_le 64)
              · intro j hj
                have : gv = j := by simpa [Value.ownBlock] using hj
                omega
              · rw [← List.append_assoc]; exact HB5.out
            case measure => simp [sliceLen]; omega
        · have hq64' : ((q : Int) == 64) = false := by simp; omega
          have hq65 : decide ((q : Int) = 64) = false := decide_eq_false (by omega)
          have z3 := Z3.out
          rw [HW5.out] at z3
          have hlt : nr + k < 64 := by have := HQ.out; omega
          have hmod : (l ++ pre).length % 64 + (suf.take k).length < 64 := by rw [← restL_len, HYL.out, ← HNR.out]; exact hlt
          have hmore := stL_more (l ++ pre) (suf.take k) hmod
          have HMore := Lib.hid hmore
          clear hmore hmod hlt
          go_wp2_with fail
          go_roundw
          case rel =>
            rw [← HW5.out]
            refine ⟨pre ++ suf.take k, suf.drop k, .slice (some ⟨gv, 0, none⟩) q cap, A2, c3, mr, rfl, HX5.out, HM5.out, hc5, ⟨HH.out.low, ?_, ?_, ?_, ?_⟩, HF4.out, HU5.out, HC5.out⟩
            · rw [← List.append_assoc, HMore.out.1]
              exact HCL5.out
            · rw [← List.append_assoc, HMore.out.2]
              rw [show (restL (l ++ pre) ++ suf.take k).length = q from by rw [List.length_append, HYL.out, ← HNR.out, HQ.out]]
              exact HRO5.out
            · intro j hj
              have : gv = j := by simpa [Value.ownBlock] using hj
              omega
            · rw [← List.append_assoc]; exact HB5.out
          case measure => simp [sliceLen]; omega
    · obtain rfl : m = 0 := by omega
      obtain rfl : suf = [] := List.eq_nil_of_length_eq_zero hm
      rw [List.append_nil] at hx
      subst hx
      have HFR := Lib.hid hfr
      have HU := Lib.hid hu
      clear hC hm hh hfr hu
      go_wp2_with fail
      go_end0
      exact ⟨_, rfl, ⟨rfl, _, HH.out, HFR.out⟩, HU.out⟩
end Go.Proofs.Ytimcafohmahapaa.F

-- ShaU
namespace Go.Proofs.Ytimcafohmahapaa.F
open Go Go.RowKit Go.Proofs.YtimcafohmahapaaW.PrintWords Go.Proofs.YtimcafohmahapaaW.PrintLast Go.Proofs.YtimcafohmahapaaW.PrintMore Go.Proofs.YtimcafohmahapaaR
attribute [local go_sem] max2_int min2_int max_two min_two
set_option linter.unusedSimpArgs false
set_option linter.unusedVariables false
set_option maxRecDepth 100000
theorem Blk.range0 {w : World} {g : Nat} {t : TypeId} {cs : List Value} (h : Blk w g t cs) : w.rangeAt g 0 cs := fun j v hv => by rw [h.at_, Nat.zero_add]; exact hv
/-- an append onto an empty row without room: what lay there stays -/
theorem app_fresh {P : Program} {k : IntKind} (W : World) (base : Nat) (t e ty : TypeId) (bytes : Nat)
    (ht : P.underlying t = some (.slice e)) (hinfo : (P.info? e).map (fun i => (i.zero, i.size, i.bytes)) = some (some (.int k 0), 1, bytes)) (hb0 : 0 < bytes)
    (b : Nat) (ys : List Int) (A : Option Addr) (m c : Nat) (HO : W.ownsRow base e 1 (.slice (some ⟨b, 0, none⟩) 0 0) 0 []) (HR : ReadsInt W k A m ys) (hbase : base ≤ W.heap.size) (hl : m * bytes ≤ 140737488355328) :
    ∃ v1 w1, (Builtin.append_ #[t, t] ty #[.slice (some ⟨b, 0, none⟩) 0 0, .slice A m c]).run P W = .ok v1 w1 ∧ w1.ownsRow base e 1 v1 ys.length (nums k ys) ∧ Grew W w1 := by
  obtain ⟨i0, hi, hzz⟩ := Option.map_eq_some_iff.1 hinfo
  simp only [Prod.mk.injEq] at hzz
  obtain ⟨hz0, hz1, hz2⟩ := hzz
  have hm : ys.length = m := HR.1
  have hlen : m ≤ 140737488355328 := Nat.le_trans (Nat.le_mul_of_pos_right _ hb0) hl
  rcases Nat.eq_zero_or_pos m with h0 | hpos
  · subst h0
    obtain rfl : ys = [] := List.eq_nil_of_length_eq_zero hm
    refine ⟨_, W, ?_, HO, Grew.refl W⟩
    have hld : ∀ ad : Addr, (loadCells ad 0).run P W = .ok #[] W := fun ad => by simpa using run_loadCells_list (P := P) W ad [] (by simp)
    cases A <;> simp [Builtin.append_, run_underlying ht, sizeOf, typeInfo, hi, Builtin.lenOf, Builtin.firstCells, storeCells, hld]
  · obtain ⟨ad, rfl, hc⟩ := HR.2.2 hpos
    obtain ⟨v1, w1, hr, ho, hg⟩ := run_append_arg_grows (P := P) W t ty e i0 (.int k 0) 1 bytes ht hi hz0 hz1 hz2 (by rfl) (by omega) ⟨b, 0, none⟩ 0 0 [] (by simp) (by simp) ad m c (nums k ys) (by simp [nums, hm])
      (fun j u hu => by
        have hj : j < ys.length := by
          have := (List.getElem?_eq_some_iff.1 hu).1
          simpa [nums] using this
        have e2 : (nums k ys)[j]? = some (.int k (ys.getD j 0)) := by simp [nums, hj, List.getD_eq_getElem?_getD]
        rw [e2] at hu
        rw [← hu]
        exact hc j (by omega)) (by omega) (by simp only [maxLen]; omega) (by simpa using hl)
    rw [Nat.zero_add, List.nil_append] at ho
    exact ⟨v1, w1, hr, by rw [hm]; exact own_less ho hbase, ⟨hg.os, hg.tape, hg.output, hg.size, fun j hj => hg.block j hj (by simp)⟩⟩
/-- an empty row without room, in a block of its own -/
def Empty0 (base : Nat) (e : TypeId) : World → Value → Prop := fun w v => ∃ b, v = .slice (some ⟨b, 0, none⟩) 0 0 ∧ w.ownsRow base e 1 (.slice (some ⟨b, 0, none⟩) 0 0) 0 []
theorem Empty0.stable (base : Nat) (e : TypeId) : ∀ w w' v, Grew w w' → Empty0 base e w v → Empty0 base e w' v := fun _ _ _ hg ⟨b, h1, h2⟩ => ⟨b, h1, pw_own_below h2 hg⟩
theorem Empty0.new (w : World) (base : Nat) (e : TypeId) (h : base ≤ w.heap.size) : Empty0 base e (w.alloc (.cells #[] e)) (.slice (some ⟨w.heap.size, 0, none⟩) 0 0) := by
  refine ⟨_, rfl, ?_⟩
  have := (Blk.new w e (nums .u8 [])).own (base := base) (n := 0) h (Nat.le_refl _) (by simp)
  exact this
def OwnR (base : Nat) (e : TypeId) (l : List Int) : World → Value → Prop := fun w v => w.ownsRow base e 1 v l.length (nums .u8 l)
theorem OwnR.stable (base : Nat) (e : TypeId) (l : List Int) : ∀ w w' v, Grew w w' → OwnR base e l w v → OwnR base e l w' v := fun _ _ _ hg h => pw_own_below h hg
set_option maxHeartbeats 4000000 in
theorem sum_c {g : Nat} {l : List Int} {rv : Value} {B : Nat} (w : World) (h : HashA g l.length l rv B w) (hl : l.length ≤ 1000000000) :
    Calls Try.prog 47 #[.pointer (some ⟨g, 0, none⟩)] w (Tells w (Is (.string (strOfNums (shaL l))))) := by
  have H0 := Lib.hid h
  have HL := Lib.hid hl
  obtain ⟨Ar, cr, rfl⟩ := own_slice h.row
  have c1 := h.cells.at_ 72
  rw [hashC_rv kL_len (stL_len _)] at c1
  have c2 := h.cells.at_ 73
  rw [hashC_n kL_len (stL_len _)] at c2
  have hc1 := own_reads' h.row
  obtain ⟨nr, hnr⟩ : ∃ n, n = (restL l).length := ⟨_, rfl⟩
  obtain ⟨n, hn⟩ : ∃ n, n = l.length := ⟨_, rfl⟩
  rw [← hnr] at c1
  rw [← hn] at c2
  have C1 := Lib.hid c1
  have C2 := Lib.hid c2
  have HNR := Lib.hid hnr
  have HN := Lib.hid hn
  clear h hl c1 c2 hc1 hnr hn
  go_enter Try.func47, Try.ntmps47
  go_wp2_with fail
  have HRD := Lib.hid (fun w' (hg : Grew w w') => own_reads' (pw_own_below H0.out.row hg))
  apply region_grew [Empty0 w.heap.size 5, Is _, Is _, Is _, Is _, OwnR w.heap.size 5 (restL l), Is _, Is _, Is _, Is _] [([], none), ([(0, none)], none), ([(12, some 1)], none), ([(13, some 2)], none), ([(14, some 3)], none), ([(11, some 0), (15, some 4)], none), ([(0, none)], none), ([(17, some 6)], none), ([(18, some 7)], none), ([(19, some 8)], none)] [(11, 0), (16, 5), (12, 1), (13, 2), (14, 3), (15, 4), (17, 6), (18, 7), (19, 8), (20, 9)] rfl (by kernel_rfl) (by kernel_rfl) (show Stable Grew _ from ⟨Empty0.stable _ _, Is.stable _, Is.stable _, Is.stable _, Is.stable _, OwnR.stable _ _ _, Is.stable _, Is.stable _, Is.stable _, Is.stable _, trivial⟩)
  · show OpsHold _ _ _ _ _ _ _ _ _
    refine ⟨fun a_ wx hR hD K hK => ?_, ?_⟩
    · have hG : Grew w wx := (Grew.drew _).trans hR
      go_simp
      exact hK _ _ (Grew.alloc _ _) (Empty0.new _ _ _ hG.size)
    refine ⟨fun a_ wx hR hD K hK => ?_, ?_⟩
    · have hG : Grew w wx := (Grew.drew _).trans hR
      simp [Deps, Dep, at_, Is] at hD
      go_simp
      exact hK _ _ (Grew.refl _) rfl
    refine ⟨fun a_ wx hR hD K hK => ?_, ?_⟩
    · have hG : Grew w wx := (Grew.drew _).trans hR
      simp [Deps, Dep, at_, Is] at hD
      go_simp
      exact hK _ _ (Grew.refl _) rfl
    refine ⟨fun a_ wx hR hD K hK => ?_, ?_⟩
    · have hG : Grew w wx := (Grew.drew _).trans hR
      simp [Deps, Dep, at_, Is] at hD
      go_simp
      exact hK _ _ (Grew.refl _) rfl
    refine ⟨fun a_ wx hR hD K hK => ?_, ?_⟩
    · have hG : Grew w wx := (Grew.drew _).trans hR
      simp [Deps, Dep, at_, Is] at hD
      have e_ := pw_cell_below hG C1.out
      go_simp
      exact hK _ _ (Grew.refl _) rfl
    refine ⟨fun a_ wx hR hD K hK => ?_, ?_⟩
    · have hG : Grew w wx := (Grew.drew _).trans hR
      simp [Deps, Dep, at_, Is] at hD
      obtain ⟨hd0, hd1⟩ := hD
      obtain ⟨b, h1, h2⟩ := hd0
      obtain ⟨v1, wy, hrun, hown1, hgr1⟩ := app_fresh (P := Try.prog) (k := .u8) wx w.heap.size 23 5 23 1 Try.underlying23 info5 (by decide) b (restL l) Ar nr cr h2 (by rw [HNR.out]; exact HRD.out wx hG) hG.size (by rw [HNR.out, restL_len]; omega)
      exact wp_app (.tmp 11) (.tmp 15) 23 rfl (eval_tmp h1) (eval_tmp hd1) hrun (hK _ _ hgr1 hown1)
    refine ⟨fun a_ wx hR hD K hK => ?_, ?_⟩
    · have hG : Grew w wx := (Grew.drew _).trans hR
      simp [Deps, Dep, at_, Is] at hD
      go_simp
      exact hK _ _ (Grew.refl _) rfl
    refine ⟨fun a_ wx hR hD K hK => ?_, ?_⟩
    · have hG : Grew w wx := (Grew.drew _).trans hR
      simp [Deps, Dep, at_, Is] at hD
      go_simp
      exact hK _ _ (Grew.refl _) rfl
    refine ⟨fun a_ wx hR hD K hK => ?_, ?_⟩
    · have hG : Grew w wx := (Grew.drew _).trans hR
      simp [Deps, Dep, at_, Is] at hD
      go_simp
      exact hK _ _ (Grew.refl _) rfl
    refine ⟨fun a_ wx hR hD K hK => ?_, ?_⟩
    · have hG : Grew w wx := (Grew.drew _).trans hR
      simp [Deps, Dep, at_, Is] at hD
      have e_ := pw_cell_below hG C2.out
      go_simp
      exact hK _ _ (Grew.refl _) rfl
    trivial
  · show EndHold _ _ _ _ _ _ _
    intro v11
    intro v16
    refine end_all (xs := [_, _, _, _, _, _, _, _]) ⟨rfl, rfl, rfl, rfl, rfl, rfl, rfl, rfl, trivial⟩ ?_
    rintro w1 hR1 ⟨⟨-, hE⟩, hApp⟩
    refine ⟨?_⟩
    have hG_w1 : Grew w w1 := (Grew.drew _).trans hR1
    clear hR1
    simp only [Act.put, List.setIfInBounds_toArray, List.set_cons_succ, List.set_cons_zero, dropN, putEach]
    have hro : w1.ownsRow w.heap.size 5 1 v16 (restL l).length (nums .u8 (restL l)) := hApp
    obtain ⟨A5, c5, rfl⟩ := own_slice hro
    have hpd := pad_c n (by rw [HN.out]; have := HL.out; omega) w1
    have HP := Lib.hid hpd
    have HRO := Lib.hid hro
    clear hApp hE hro hpd
    rw [← HNR.out] at HRO ⊢
    go_wp2_with fail
    refine HP.out.mono ?_
    rintro e w2 ⟨v22, rfl, hpo, hg2⟩
    obtain ⟨A6, c6, rfl⟩ := own_slice hpo
    obtain ⟨v3, w3, hrun, hro3, hgr3, hat3⟩ := app_num (P := Try.prog) (k := .u8) w2 w.heap.size 23 5 23 1 Try.underlying23 info5 (by decide) (.slice A5 nr c5) (restL l) (padL n) A6 (padL n).length c6 (by have h := pw_own_below HRO.out hg2; rw [← HNR.out]; exact h) (own_reads' hpo) (Nat.le_trans hG_w1.size hg2.size) (by rw [← HNR.out, padL_len, HNR.out, restL_len]; unfold zN; omega)
    have hu3 : Upd (fun j => (Value.slice A5 nr c5).ownBlock = some j) w2 w3 := (Upd.refl _ _).grown hgr3 (fun j hj => .inl hj)
    have hgw3 : Grew w w3 := Below.trans (Grew.trans hG_w1 hg2) (hu3.below (Grew.trans hG_w1 hg2).size (fun j hj => own_base HRO.out j hj))
    obtain ⟨T, hT⟩ : ∃ T, T = restL l ++ padL n := ⟨_, rfl⟩
    rw [← hT] at hro3
    obtain ⟨A3, c3, rfl⟩ := own_slice hro3
    obtain ⟨m, hm⟩ : ∃ m, m = T.length := ⟨_, rfl⟩
    rw [← hm] at hrun hro3
    have HT := Lib.hid hT
    have HM := Lib.hid hm
    have HRO3 := Lib.hid hro3
    have HG3 := Lib.hid hgw3
    have hcl3 := H0.out.cells.grew hgw3
    have hrange := hashC_range hcl3 kL_len
    have HRng := Lib.hid hrange
    obtain ⟨S1, hS1⟩ : ∃ S1, S1 = stL l := ⟨_, rfl⟩
    rw [← hS1] at HRng
    have hs1l : S1.length = 8 := by rw [hS1]; exact stL_len _
    have HS1 := Lib.hid hS1
    have HSL := Lib.hid hs1l
    clear hT hm hro3 hgw3 hcl3 hrange hS1 hs1l hgr3 hat3 hu3 hpo hg2
    go_wp2_with (first
      | (at_builtin; refine wpList_app (by rfl) (.tmp 16) (.tmp 21) 23 (by rfl) (by rfl) (by rfl) hrun ?_)
      | refine wpList_load_mid (by rfl) 91 (.tmp 25) (by rfl) g 64 (by rfl) (wcells S1) _ HRng.out Try.underlying91 (by rfl) (by rw [wcells_len, HSL.out]; kernel_rfl) ?_
      | refine wpList_store_blk (c := wcells S1) (Blk.new _ 91 (wcells (List.replicate 8 0))) (by rfl) 91 (.tmp 4) (.tmp 26) (by rfl) (by rfl) (by rfl) (by rw [wcells_len, HSL.out]; kernel_rfl) (by rw [wcells_len, wcells_len, HSL.out]; rfl) (wcells_one _) ?_)
    simp only [zeros8]
    obtain ⟨gs, hgs⟩ : ∃ gs, gs = w3.heap.size := ⟨_, rfl⟩
    have hb0 : Blk ((w3.alloc (.cells (wcells (List.replicate 8 0)).toArray 91)).setRow w3.heap.size (wcells S1).toArray) w3.heap.size 91 (wcells S1) := (Blk.new w3 _ _).setRow _
    have hg0 : Grew w3 ((w3.alloc (.cells (wcells (List.replicate 8 0)).toArray 91)).setRow w3.heap.size (wcells S1).toArray) := Grew.setRow (Grew.alloc _ _) (Nat.le_refl _) _
    have hgle : w3.heap.size ≤ gs := by omega
    rw [← hgs] at hb0 hg0 ⊢
    obtain ⟨W5, hW5⟩ : ∃ W5, W5 = ((w3.alloc (.cells (wcells (List.replicate 8 0)).toArray 91)).setRow gs (wcells S1).toArray) := ⟨_, rfl⟩
    rw [← hW5] at hb0 hg0 ⊢
    have hmb : m % 64 = 0 := by rw [HM.out, HT.out, HN.out]; exact (shaL_rest l).2
    have hTb : ∀ y ∈ T, 0 ≤ y ∧ y < 256 := by
      intro y hy
      rw [HT.out] at hy
      rcases List.mem_append.1 hy with h | h
      · exact H0.out.bytes y (List.mem_of_mem_drop h)
      · exact padL_bytes n y h
    have HTB := Lib.hid hTb
    clear hgs hW5 hTb hrun HRng HP
    go_loopw [5] (fun iv wq => ∃ j ij : Nat, iv = .int .i64 (ij : Int) ∧ ij = 64 * j ∧ ij ≤ m ∧ Blk wq gs 91 (wcells (after kL S1 T j)) ∧ Grew w3 wq) (fun iv _ => m - (intOf iv).toNat)
    case atStart => exact ⟨0, 0, rfl, rfl, by omega, hb0, hg0⟩
    case round =>
      obtain ⟨j, ij, rfl, hij, him, hb, hg⟩ := hrel
      clear hb0 hg0
      by_cases hlt : ij < m
      · have d1 : decide ((ij : Int) < (m : Int)) = true := decide_eq_true (by omega)
        obtain ⟨ij2, hij2⟩ : ∃ q, q = ij + 64 := ⟨_, rfl⟩
        have e1 : IntKind.i64.wrap ((ij : Int) + 64) = (ij2 : Int) := by rw [IntWalk.i64_in _ (by have := HM.out; have := HT.out; have h5 : m ≤ 1000000200 := by { rw [HM.out, HT.out, List.length_append, restL_len, padL_len]; unfold zN; omega }; omega)]; omega
        have hle2 : ij2 ≤ m := by omega
        obtain ⟨A7, hs7, hr7, hc7⟩ := print_mid_int (P := Try.prog) (k := .u8) 23 5 (i := _) Try.underlying23 (by rfl) (by rfl) A3 c3 T (ij : Int) (ij2 : Int) (by omega) (by omega) (by rw [← HM.out]; omega) (by rw [← HM.out]; exact own_le HRO3.out)
        have hbk : (T.take (ij2 : Int).toNat).drop (ij : Int).toNat = blkL T j := by
          rw [Int.toNat_natCast, Int.toNat_natCast, List.drop_take, hij2, Nat.add_sub_cancel_left, hij]; rfl
        have hb64 : (blkL T j).length = 64 := by
          unfold blkL
          rw [List.length_take, List.length_drop, ← HM.out]; omega
        rw [hbk, hb64, ← HM.out] at hs7 hr7
        rw [hbk, hb64] at hc7
        obtain ⟨c7, hc7e⟩ : ∃ c7, c7 = c3 - (ij : Int).toNat := ⟨_, rfl⟩
        rw [← hc7e] at hs7 hc7
        obtain ⟨S, hS⟩ : ∃ S, S = after kL S1 T j := ⟨_, rfl⟩
        have hsl : S.length = 8 := by rw [hS]; exact after_len HSL.out _
        have hsw : words S := by rw [hS]; exact after_words (by rw [HS1.out]; exact stL_words _) _
        have hnext : after kL S1 T (j + 1) = mixL kL S (blkL T j) := by rw [hS]; rfl
        have hbb : ∀ y ∈ blkL T j, 0 ≤ y ∧ y < 256 := fun y hy => HTB.out y (List.mem_of_mem_drop (List.mem_of_mem_take hy))
        rw [← hS] at hb
        have HBk := Lib.hid hb
        have HG := Lib.hid hg
        have HSl := Lib.hid hsl
        have HSw := Lib.hid hsw
        have HNext := Lib.hid hnext
        have HBB := Lib.hid hbb
        have HB64 := Lib.hid hb64
        have HR7 := Lib.hid hr7
        have hcr : ∀ w', Grew wr w' → Kd.C (Kd.int .u8) w' A7 64 (blkL T j) := fun w' hg' => C_of (HR7.out w' (own_reads' (pw_own_below HRO3.out (Grew.trans HG.out hg'))))
        have hli : ∀ w', Grew wr w' → Lies w' g kL := fun w' hg' => hashC_lies (H0.out.cells.grew (Grew.trans HG3.out (Grew.trans HG.out hg')))
        have HCR := Lib.hid hcr
        have HLI := Lib.hid hli
        have i0 : (ij : Int) ≤ (ij2 : Int) := by omega
        have HIJ := Lib.hid hij
        have HIJ2 := Lib.hid hij2
        clear hb hg hS hsl hsw hnext hbb hb64 hr7 hcr hli hbk hij2 hc7e hij
        go_wp2_with fail
        apply region_grew [Is _, Is _, Is _, Is _, Is _, Is _, Is _, Is _, Is _] [([(0, none)], none), ([(33, some 0)], none), ([(34, some 1)], none), ([(4, none)], none), ([(3, none)], none), ([(5, none)], none), ([(5, none)], none), ([(39, some 6)], none), ([(37, some 4), (38, some 5), (40, some 7)], none)] [(33, 0), (34, 1), (35, 2), (36, 3), (37, 4), (38, 5), (39, 6), (40, 7), (41, 8)] rfl (by kernel_rfl) (by kernel_rfl) (show Stable Grew _ from ⟨Is.stable _, Is.stable _, Is.stable _, Is.stable _, Is.stable _, Is.stable _, Is.stable _, Is.stable _, Is.stable _, trivial⟩)
        · show OpsHold _ _ _ _ _ _ _ _ _
          refine ⟨fun a_ wx hR hD K hK => ?_, ?_⟩
          · have hG : Grew wr wx := (Grew.drew _).trans hR
            simp [Deps, Dep, at_, Is] at hD
            go_simp
            exact hK _ _ (Grew.refl _) rfl
          refine ⟨fun a_ wx hR hD K hK => ?_, ?_⟩
          · have hG : Grew wr wx := (Grew.drew _).trans hR
            simp [Deps, Dep, at_, Is] at hD
            go_simp
            exact hK _ _ (Grew.refl _) rfl
          refine ⟨fun a_ wx hR hD K hK => ?_, ?_⟩
          · have hG : Grew wr wx := (Grew.drew _).trans hR
            simp [Deps, Dep, at_, Is] at hD
            go_simp
            exact hK _ _ (Grew.refl _) rfl
          refine ⟨fun a_ wx hR hD K hK => ?_, ?_⟩
          · have hG : Grew wr wx := (Grew.drew _).trans hR
            simp [Deps, Dep, at_, Is] at hD
            exact wp_load_mid 91 (.tmp 4) rfl gs 0 (eval_tmp hD) (wcells S) _ (Blk.range0 (HBk.out.grew hG)) Try.underlying91 (by rfl) (by rw [wcells_len, HSl.out]; kernel_rfl) (hK _ _ (Grew.refl _) rfl)
          refine ⟨fun a_ wx hR hD K hK => ?_, ?_⟩
          · have hG : Grew wr wx := (Grew.drew _).trans hR
            simp [Deps, Dep, at_, Is] at hD
            go_simp
            exact hK _ _ (Grew.refl _) rfl
          refine ⟨fun a_ wx hR hD K hK => ?_, ?_⟩
          · have hG : Grew wr wx := (Grew.drew _).trans hR
            simp [Deps, Dep, at_, Is] at hD
            go_simp
            exact hK _ _ (Grew.refl _) rfl
          refine ⟨fun a_ wx hR hD K hK => ?_, ?_⟩
          · have hG : Grew wr wx := (Grew.drew _).trans hR
            simp [Deps, Dep, at_, Is] at hD
            go_simp
            exact hK _ _ (Grew.refl _) rfl
          refine ⟨fun a_ wx hR hD K hK => ?_, ?_⟩
          · have hG : Grew wr wx := (Grew.drew _).trans hR
            simp [Deps, Dep, at_, Is] at hD
            go_simp
            exact hK _ _ (Grew.refl _) rfl
          refine ⟨fun a_ wx hR hD K hK => ?_, ?_⟩
          · have hG : Grew wr wx := (Grew.drew _).trans hR
            simp [Deps, Dep, at_, Is] at hD
            obtain ⟨hd0, hd1, hd2⟩ := hD
            go_simp
            exact hK _ _ (Grew.refl _) rfl
          trivial
        · show EndHold _ _ _ _ _ _ _
          refine end_all (xs := [_, _, _, _, _, _, _, _, _]) ⟨rfl, rfl, rfl, rfl, rfl, rfl, rfl, rfl, rfl, trivial⟩ ?_
          rintro w5 hR1 -
          refine ⟨?_⟩
          have hG_w5 : Grew wr w5 := (Grew.drew _).trans hR1
          clear hR1
          simp only [Act.put, List.setIfInBounds_toArray, List.set_cons_succ, List.set_cons_zero, dropN, putEach]
          go_wp2_with fail
          refine (mix_c w5 g kL S A7 c7 (blkL T j) (HLI.out w5 hG_w5) kL_len kL_words HSl.out HSw.out HB64.out HBB.out (HCR.out w5 hG_w5) hc7).mono ?_
          rintro e w6 ⟨_, rfl, rfl, hg6⟩
          have HB5 := Lib.hid ((HBk.out.grew hG_w5).grew hg6)
          go_wp2_with (refine wpList_store_blk (c := wcells (mixL kL S (blkL T j))) HB5.out (by rfl) 91 (.tmp 4) (.tmp 42) (by rfl) (by rfl) (by rfl) (by rw [wcells_len, mixL_len]; kernel_rfl) (by rw [wcells_len, wcells_len, mixL_len, HSl.out]) (wcells_one _) ?_)
          go_roundw
          case rel =>
            refine ⟨j + 1, ij2, by go_num, by rw [HIJ2.out, HIJ.out]; omega, hle2, ?_, Grew.setRow (Grew.trans (Grew.trans HG.out hG_w5) hg6) hgle _⟩
            rw [HNext.out]
            exact HB5.out.setRow _
          case measure => have := HIJ2.out; simp [intOf]; omega
      · have d1 : decide ((ij : Int) < (m : Int)) = false := decide_eq_false (by omega)
        obtain ⟨SF, hSF⟩ : ∃ SF, SF = after kL S1 T j := ⟨_, rfl⟩
        have hsl : SF.length = 8 := by rw [hSF]; exact after_len HSL.out _
        have hout : shaL l = outL SF := by
          unfold shaL
          rw [← (shaL_rest l).1, hSF, HS1.out, HT.out, HN.out]
          congr 2
          rw [← HN.out, ← HT.out, ← HM.out]
          omega
        rw [← hSF] at hb
        have HOut := Lib.hid hout
        have HBk := Lib.hid hb
        have HSl := Lib.hid hsl
        have hgw : Grew w wr := Grew.trans HG3.out hg
        clear hb hg hSF hsl hout hij
        go_wp2_with (refine wpList_load_blk HBk.out (by rfl) 91 (.tmp 4) (by rfl) (by rfl) _ Try.underlying91 (by rfl) (by rw [wcells_len, HSl.out]; kernel_rfl) ?_)
        go_loopw [6, 44] (fun v6 iv wq => ∃ (i : Nat) (v : Value), v6 = v ∧ iv = .int .i64 (i : Int) ∧ i ≤ 8 ∧ wq.ownsRow w.heap.size 5 1 v (outL (SF.take i)).length (nums .u8 (outL (SF.take i))) ∧ Grew w wq) (fun _ iv _ => 8 - (intOf iv).toNat)
        case atStart => exact ⟨0, _, rfl, rfl, by omega, own_nil _ _ _ _, hgw⟩
        case round =>
          obtain ⟨i, v, rfl, rfl, hi, ho, hg⟩ := hrel
          clear hgw HBk
          by_cases hi8 : i < 8
          · have d1 : decide ((i : Int) < 8) = true := decide_eq_true (by omega)
            have hix := run_index_arr (P := Try.prog) wr 91 _ 8 (wcells SF) .i64 i _ Try.underlying91 (fun _ => by rfl) (fun _ => by rfl) hi8 (cells_get SF i (by rw [HSl.out]; omega))
            have hsucc : outL (SF.take (i + 1)) = outL (SF.take i) ++ outW (SF.getD i 0) := outL_succ SF i (by rw [HSl.out]; omega)
            obtain ⟨y, hy⟩ : ∃ y, y = SF.getD i 0 := ⟨_, rfl⟩
            rw [← hy] at hix hsucc
            obtain ⟨b0, hb0⟩ : ∃ b, b = y / 16777216 % 256 := ⟨_, rfl⟩
            obtain ⟨b1, hb1⟩ : ∃ b, b = y / 65536 % 256 := ⟨_, rfl⟩
            obtain ⟨b2, hb2⟩ : ∃ b, b = y / 256 % 256 := ⟨_, rfl⟩
            obtain ⟨b3, hb3⟩ : ∃ b, b = y % 256 := ⟨_, rfl⟩
            have g0 : (y : Int) / 16777216 % 256 = (b0 : Int) := by omega
            have g1 : (y : Int) / 65536 % 256 = (b1 : Int) := by omega
            have g2 : (y : Int) / 256 % 256 = (b2 : Int) := by omega
            have g3 : (y : Int) % 256 = (b3 : Int) := by omega
            have hw4 : outW y = [(b0 : Int), (b1 : Int), (b2 : Int), (b3 : Int)] := by rw [hb0, hb1, hb2, hb3]; rfl
            rw [hw4] at hsucc
            obtain ⟨A9, c9, rfl⟩ := own_slice ho
            have hol : (outL (SF.take i)).length ≤ 32 := by rw [outL_len, List.length_take]; omega
            obtain ⟨v1, w8, hrun, ho8, hgr8, hat8⟩ := app_num (P := Try.prog) (k := .u8) (wr.alloc (.cells #[.int .u8 (b0 : Int), .int .u8 (b1 : Int), .int .u8 (b2 : Int), .int .u8 (b3 : Int)] 5)) w.heap.size 23 5 23 1 Try.underlying23 info5 (by decide) _ (outL (SF.take i)) [(b0 : Int), (b1 : Int), (b2 : Int), (b3 : Int)] (some ⟨wr.heap.size, 0, none⟩) 4 4 (own_alloc ho _) ((Blk.new wr 5 (nums .u8 [(b0 : Int), (b1 : Int), (b2 : Int), (b3 : Int)])).reads (by simp)) (Nat.le_trans hg.size (by simp)) (by omega)
            have hu8 : Upd (fun j => (Value.slice A9 (outL (SF.take i)).length c9).ownBlock = some j) (wr.alloc (.cells #[.int .u8 (b0 : Int), .int .u8 (b1 : Int), .int .u8 (b2 : Int), .int .u8 (b3 : Int)] 5)) w8 := (Upd.refl _ _).grown hgr8 (fun j hj => .inl hj)
            have hg1 : Grew w (wr.alloc (.cells #[.int .u8 (b0 : Int), .int .u8 (b1 : Int), .int .u8 (b2 : Int), .int .u8 (b3 : Int)] 5)) := Grew.trans hg (Grew.alloc _ _)
            have hgw8 : Grew w w8 := Below.trans hg1 (hu8.below hg1.size (fun j hj => own_base ho j hj))
            rw [← hsucc] at ho8
            obtain ⟨on, hon⟩ : ∃ on, on = (outL (SF.take i)).length := ⟨_, rfl⟩
            rw [← hon] at hrun ⊢
            have HO8 := Lib.hid ho8
            have HG8 := Lib.hid hgw8
            clear hsucc hw4 hb0 hb1 hb2 hb3 hy ho ho8 hgr8 hat8 hu8 hg1 hgw8 hon hol hg
            go_wp2_with (at_builtin; refine wpList_app (by rfl) (.tmp 47) (.tmp 59) 23 (by rfl) (by rfl) (by rfl) hrun ?_)
            go_roundw
            case rel => exact ⟨i + 1, _, rfl, by go_num, by omega, HO8.out, HG8.out⟩
            case measure => simp [intOf]; omega
          · have d1 : decide ((i : Int) < 8) = false := decide_eq_false (by omega)
            obtain rfl : i = 8 := by omega
            rw [List.take_of_length_le (by rw [HSl.out]; omega)] at ho
            have hst := own_string (P := Try.prog) Try.underlying23 Try.underlying5 Try.underlying9 ho
            clear ho
            go_wp2_with fail
            go_ret
            refine ⟨_, rfl, ?_, hg⟩
            rw [HOut.out]
            rfl
end Go.Proofs.Ytimcafohmahapaa.F

-- ShaV
namespace Go.Proofs.Ytimcafohmahapaa.F
open Go Go.RowKit Go.Proofs.YtimcafohmahapaaW.PrintWords Go.Proofs.YtimcafohmahapaaW.PrintLast Go.Proofs.YtimcafohmahapaaW.PrintMore Go.Proofs.YtimcafohmahapaaR
attribute [local go_sem] max2_int min2_int max_two min_two
set_option linter.unusedSimpArgs false
set_option linter.unusedVariables false
set_option maxRecDepth 100000
theorem HS.low {g B : Nat} {rv : Value} {w : World} {l : List Int} {N : Nat} (h : HashA g N l rv B w) : ∀ k, HS g rv k → B ≤ k := fun k hk => hk.elim (fun e => by rw [e]; exact h.low) (fun e => own_base h.row k e)
set_option maxHeartbeats 4000000 in
theorem sum1_c (w : World) (A : Option Addr) (c n : Nat) (x : List Int) (hC : Kd.C (Kd.int .u8) w A n x) (hn : x.length = n) (hc : n ≤ c) (hx : n ≤ 1000000000) (hb : ∀ y ∈ x, 0 ≤ y ∧ y < 256) :
    Calls Try.prog 54 #[.slice A n c] w (Tells w (Is (.string (strOfNums (shaL x))))) := by
  subst hn
  have HC := Lib.hid hC
  have HX := Lib.hid hx
  have HB := Lib.hid hb
  have HCC := Lib.hid hc
  obtain ⟨n, hn⟩ : ∃ n, n = x.length := ⟨_, rfl⟩
  rw [← hn]
  have HN := Lib.hid hn
  clear hC hx hb hc hn
  go_enter Try.func54, Try.ntmps54
  go_wp2_with fail
  refine (new_h w).mono ?_
  rintro e w1 ⟨_, rfl, ⟨g, rfl, hh⟩, hg1⟩
  have hlow := HS.low hh
  have hw := write_c (l := []) w1 A c x hh hg1.size (fun w' hu => Kd.C_below HC.out (Below.trans hg1 (hu.below hg1.size hlow))) HCC.out (by simpa using HX.out) HB.out
  rw [← HN.out] at hw
  have HW := Lib.hid hw
  clear hw
  go_wp2_with fail
  refine HW.out.mono ?_
  rintro e w2 ⟨_, rfl, ⟨rfl, rv, hh2, -⟩, hu2⟩
  have hg2 : Grew w w2 := Below.trans hg1 (hu2.below hg1.size hlow)
  rw [List.nil_append] at hh2
  have e1 : ([] : List Int).length + n = x.length := by rw [← HN.out]; simp
  rw [e1] at hh2
  have hs := sum_c w2 hh2 HX.out
  have HS := Lib.hid hs
  clear hs hh2 hh
  go_wp2_with fail
  refine HS.out.mono ?_
  rintro e w3 ⟨_, rfl, rfl, hg3⟩
  go_wp2_with fail
  go_ret
  exact ⟨_, rfl, rfl, Grew.trans hg2 hg3⟩
end Go.Proofs.Ytimcafohmahapaa.F
