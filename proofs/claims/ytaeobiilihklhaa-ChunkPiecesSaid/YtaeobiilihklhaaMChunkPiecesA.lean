/- Texts of this seat laid together: F, F34, F30, F31, RollMath, Reg, RollC, F33, RollE, Own, Upd, WinM, Win, ChunkM, F23, F28, ChunkC, ChunkW. -/
import Derived.Test.YtaeobiilihklhaaProg
import Derived.Below
import Derived.Deep.Draws
import Derived.Deep.AppendLies
import Derived.Maps.AppendAt
import Derived.OwnWalk
import Derived.Laws.BytesArg
import Derived.Laws.MakeOwn
import Derived.Laws.OwnMore
import Derived.Deep.OwnRows
import Derived.Tactics
import Derived.Lib.ConvBytes
import Derived.Laws.Slices
import Derived.WalkKit
import Derived.KernelRfl
import Derived.RowKit3
import Derived.Deep.LoopGhost
import Derived.Deep.QuietTactic
import Derived.BigQuiet
import Derived.WideLaws
import Derived.Deep.DeepCutAuto
import Derived.Deep.CutBlock
import Derived.Deep.RegionHeld3
import Derived.Laws.Rows
import Derived.Lib.AppendStr
import Derived.ArgAppend
import Derived.Laws.IdiomCopy
import Derived.OrdersHeld
import Derived.Laws.BitsLemmas
import Derived.RowKit
import Derived.Test.YtaeobiilihklhaaWWords
import Derived.Test.YtaeobiilihklhaaWLast
import Derived.Test.YtaeobiilihklhaaWTab
import Derived.Test.YtaeobiilihklhaaWFour
import Derived.Test.YtaeobiilihklhaaWQPut
import Derived.Test.YtaeobiilihklhaaWApart
import Derived.Test.YtaeobiilihklhaaWArr
import Derived.Test.YtaeobiilihklhaaWZeros
import Derived.Test.YtaeobiilihklhaaWFoot
import Derived.Test.YtaeobiilihklhaaWKept
import Derived.Test.YtaeobiilihklhaaWShare
import Derived.Test.YtaeobiilihklhaaWN
import Derived.Test.YtaeobiilihklhaaWFootNe
import Derived.Test.YtaeobiilihklhaaWAt
import Derived.Test.YtaeobiilihklhaaWEqStruct
import Derived.Test.YtaeobiilihklhaaWRepsOne
import Derived.Test.YtaeobiilihklhaaWInv
import Derived.Test.YtaeobiilihklhaaWInvWords
import Derived.Test.YtaeobiilihklhaaWGuard
import Derived.Test.YtaeobiilihklhaaWNEv
import Derived.Test.YtaeobiilihklhaaWMore
import Derived.Orders
import Derived.Lib.Hide
import Derived.Outline

-- F
namespace Go.Proofs.Ytaeobiilihklhaa.F
open Go.RowKit Go.Proofs.YtaeobiilihklhaaW.PrintWords Go.Proofs.YtaeobiilihklhaaW.PrintLast Go.Proofs.YtaeobiilihklhaaW.PrintMore
attribute [local go_sem] max2_int min2_int max_two min_two max_three min_three max_four min_four   -- for this text's walks alone
set_option linter.unusedVariables false
set_option linter.unusedSimpArgs false



def errW : Option Int → Value
  | none => .nilIface
  | some c => .iface 0 (.int .i64 c)
theorem errW_none : errW none = .nilIface := rfl
theorem errW_some (c : Int) : errW (some c) = .iface 0 (.int .i64 c) := rfl

theorem info3 : (Try.prog.info? 3).map (fun i => (i.zero, i.size, i.bytes)) = some (some (.int .i64 0), 1, 8) := by kernel_rfl
theorem info5 : (Try.prog.info? 5).map (fun i => (i.zero, i.size, i.bytes)) = some (some (.int .u8 0), 1, 1) := by kernel_rfl
theorem info9 : (Try.prog.info? 9).map (fun i => (i.zero, i.size, i.bytes)) = some (some (.string ⟨#[]⟩), 1, 16) := by kernel_rfl
-- the values' own types

end Go.Proofs.Ytaeobiilihklhaa.F

-- F34
namespace Go.Proofs.Ytaeobiilihklhaa.F
open Go.RowKit Go.Proofs.YtaeobiilihklhaaW.PrintWords Go.Proofs.YtaeobiilihklhaaW.PrintLast Go.Proofs.YtaeobiilihklhaaW.PrintMore
attribute [local go_sem] max2_int min2_int max_two min_two max_three min_three max_four min_four   -- for this text's walks alone
set_option linter.unusedVariables false
set_option linter.unusedSimpArgs false

/-! ### roll_make16: function 34 -/
def roll_make16.f (a0 : Int) (a1 : Int) : Option (Int) := some (Go.bits .or .u32 (Go.bits .and .u32 a0 65535) ((a1 * 65536) % 4294967296))
set_option maxHeartbeats 8000000 in
set_option maxRecDepth 100000 in
theorem roll_make16.calls (a0 : Int) (a1 : Int) (r : Int) (w : World) (h : roll_make16.f a0 a1 = some r) :
    Calls Try.prog 34 #[.int .u32 a0, .int .u32 a1] w fun e w' => e = .returned (.int .u32 r) ∧ Drawn0 w w' := by
  have H : (some (Go.bits .or .u32 (Go.bits .and .u32 a0 65535) ((a1 * 65536) % 4294967296))) = some r := h
  clear h
  obtain rfl := Option.some.inj H
  go_enter Try.func34, Try.ntmps34
  go_wp2
  go_ret
  exact ⟨by first | rfl | (simp; done) | (simp [*]; done), by repeat (first | exact Drawn0.refl _ | apply Drawn0.step)⟩

end Go.Proofs.Ytaeobiilihklhaa.F

-- F30
namespace Go.Proofs.Ytaeobiilihklhaa.F
open Go.RowKit Go.Proofs.YtaeobiilihklhaaW.PrintWords Go.Proofs.YtaeobiilihklhaaW.PrintLast Go.Proofs.YtaeobiilihklhaaW.PrintMore
attribute [local go_sem] max2_int min2_int max_two min_two max_three min_three max_four min_four   -- for this text's walks alone
set_option linter.unusedVariables false
set_option linter.unusedSimpArgs false

/-! ### roll_Sum: function 30 -/
def roll_Sum.l0 : Nat → Int → Int → List Int → Int → Int → Option (Int)
  | 0, _, _, _, _, _ => none
  | k + 1, x3, x4, x7, x8, x9 => if x9 < x8 then (if 0 ≤ x9 then (if x9 < (x7.length : Int) then (roll_Sum.l0 k ((x3 + ((rd x7 x9) % 4294967296)) % 4294967296) ((x4 + ((x3 + ((rd x7 x9) % 4294967296)) % 4294967296)) % 4294967296) x7 x8 (wrap64 (x9 + 1))) else (none)) else (none)) else ((roll_make16.f x3 x4).bind fun t137 => (some t137))
def roll_Sum.f (k : Nat) (l0 : List Int) : Option (Int) := roll_Sum.l0 k 0 0 l0 (l0.length : Int) 0
theorem roll_Sum.mono_l : ∀ k, (∀ y0 y1 y2 y3 y4, LeO (roll_Sum.l0 k y0 y1 y2 y3 y4) (roll_Sum.l0 (k + 1) y0 y1 y2 y3 y4))
  | 0 => fun _ _ _ _ _ r h => by simp [roll_Sum.l0] at h
  | k + 1 => by
    have ih0 := roll_Sum.mono_l k
    · intro y0 y1 y2 y3 y4
      unfold roll_Sum.l0
      repeat' first
      | (with_reducible exact ih0 _ _ _ _ _)
      | (with_reducible exact LeO.refl _)
      | (with_reducible exact LeO.none _)
      | (with_reducible refine LeO.ite ?_ ?_)
      | (with_reducible refine LeO.bind ?_ (fun _ => ?_))
      | exact ih0 _ _ _ _ _
      | exact LeO.none _
      | refine LeO.ite ?_ ?_
      | refine LeO.bind ?_ (fun _ => ?_)
theorem roll_Sum.mono : ∀ a0 k, LeO (roll_Sum.f k a0) (roll_Sum.f (k + 1) a0) := by
  intro a0 k
  have ih0 := roll_Sum.mono_l k
  unfold roll_Sum.f
  repeat' first
      | (with_reducible exact ih0 _ _ _ _ _)
      | (with_reducible exact LeO.refl _)
      | (with_reducible exact LeO.none _)
      | (with_reducible refine LeO.ite ?_ ?_)
      | (with_reducible refine LeO.bind ?_ (fun _ => ?_))
      | exact ih0 _ _ _ _ _
      | exact LeO.none _
      | refine LeO.ite ?_ ?_
      | refine LeO.bind ?_ (fun _ => ?_)
set_option maxHeartbeats 8000000 in
set_option maxRecDepth 100000 in
theorem roll_Sum.calls (k : Nat) (A0 : Option Addr) (c0 : Nat) (l0 : List Int) (r : Int) (w : World) (hr0 : Kd.C (Kd.int .u8) w A0 l0.length l0) (hc0 : l0.length ≤ c0) (h : roll_Sum.f k l0 = some r) :
    Calls Try.prog 30 #[.slice A0 l0.length c0] w fun e w' => e = .returned (.int .u32 r) ∧ Drawn0 w w' := by
  have HR0 := Aside0.mk hr0
  have HC0 := Aside0.mk hc0
  clear hr0 hc0
  have H : (roll_Sum.l0 k 0 0 l0 (l0.length : Int) 0) = some r := h
  clear h
  have H' := Aside0.mk H
  clear H
  go_enter Try.func30, Try.ntmps30
  go_wp2
  go_loopg [3, 4, 9] k (fun kq v3 v4 v9 w' => ∃ (x3_1 : Int) (x4_1 : Int) (x9_1 : Int), v3 = .int .u32 x3_1 ∧ v4 = .int .u32 x4_1 ∧ v9 = .int .i64 x9_1 ∧ Aside0 (roll_Sum.l0 kq x3_1 x4_1 l0 (l0.length : Int) x9_1 = some r) ∧ Aside0 (kq ≤ k) ∧ Drawn0 w w')
  case atStart => exact ⟨(0), (0), (0), (by first | rfl | (simp; done) | (simp [*]; done)), (by first | rfl | (simp; done) | (simp [*]; done)), (by first | rfl | (simp; done) | (simp [*]; done)), H', ⟨Nat.le_refl _⟩, by repeat (first | exact Drawn0.refl _ | apply Drawn0.step)⟩
  case round =>
    clear H'
    obtain ⟨x3_1, x4_1, x9_1, rfl, rfl, rfl, HA, HK1, ⟨m1, rfl⟩⟩ := hrel
    cases gk with
    | zero => exact absurd HA.out (by simp [roll_Sum.l0])
    | succ k1 =>
      have H := HA.out
      clear HA
      simp only [roll_Sum.l0] at H
      by_cases c2 : x9_1 < (l0.length : Int)
      · rw [if_pos c2] at H
        have c2b0 : decide (x9_1 < (l0.length : Int)) = true := decide_eq_true c2
        clear c2
        by_cases c3 : 0 ≤ x9_1
        · rw [if_pos c3] at H
          have c3b0 : decide (0 ≤ x9_1) = true := decide_eq_true c3
          clear c3
          by_cases c4 : x9_1 < (l0.length : Int)
          · rw [if_pos c4] at H
            have c4b0 : decide (x9_1 < (l0.length : Int)) = true := decide_eq_true c4
            clear c4
            have H' := Aside0.mk H
            clear H
            have p136 : 0 ≤ (x9_1 : Int) := of_decide_eq_true (by first | (with_reducible assumption) | assumption)
            have q136 : x9_1 < (l0.length : Int) := of_decide_eq_true (by first | (with_reducible assumption) | assumption)
            obtain ⟨ad136, e136, hx136_0⟩ := Kd.at_int HR0.out x9_1 p136 q136
            cases e136
            replace p136 := eq_true p136
            replace q136 := eq_true q136
            go_wp2
            go_roundg k1
            case measure => have := HK1.out; omega
            case rel => exact ⟨((x3_1 + ((rd l0 x9_1) % 4294967296)) % 4294967296), ((x4_1 + ((x3_1 + ((rd l0 x9_1) % 4294967296)) % 4294967296)) % 4294967296), (wrap64 (x9_1 + 1)), (by first | rfl | (simp; done) | (simp [*]; done)), (by first | rfl | (simp; done) | (simp [*]; done)), (by first | rfl | (simp; done) | (simp [*]; done)), H', ⟨by have := HK1.out; omega⟩, by repeat (first | exact Drawn0.refl _ | apply Drawn0.step)⟩
          · rw [if_neg c4] at H
            exact absurd H (by simp)
        · rw [if_neg c3] at H
          exact absurd H (by simp)
      · rw [if_neg c2] at H
        have c2b0 : decide (x9_1 < (l0.length : Int)) = false := decide_eq_false c2
        clear c2
        replace H := Option.bind_eq_some_iff.mp H
        obtain ⟨t137, A50, H⟩ := H
        replace H : (some t137) = some r := H
        have A5 := Aside0.mk A50
        clear A50
        obtain rfl := Option.some.inj H
        go_wp2_with (first | ((with_reducible refine gate_callee (f := 34) rfl ?_); refine goesL_ (some 23) rfl rfl Try.func34 (by kernel_rfl) rfl #[.int .u32 x3_1, .int .u32 x4_1] rfl (by (try simp only [List.map_toArray, List.map_cons, List.map_nil]); first | done | rfl | (simp only [List.length_drop, List.length_take]; rfl)) ?_; (with_reducible refine (roll_make16.calls x3_1 x4_1 t137 _ A5.out).mono ?_); rintro e w' ⟨rfl, ⟨nd, rfl⟩⟩; refine ⟨_, rfl, ?_⟩))
        go_ret
        exact ⟨by first | rfl | (simp; done) | (simp [*]; done), by repeat (first | exact Drawn0.refl _ | apply Drawn0.step)⟩

end Go.Proofs.Ytaeobiilihklhaa.F

-- F31
namespace Go.Proofs.Ytaeobiilihklhaa.F
open Go.RowKit Go.Proofs.YtaeobiilihklhaaW.PrintWords Go.Proofs.YtaeobiilihklhaaW.PrintLast Go.Proofs.YtaeobiilihklhaaW.PrintMore
attribute [local go_sem] max2_int min2_int max_two min_two max_three min_three max_four min_four   -- for this text's walks alone
set_option linter.unusedVariables false
set_option linter.unusedSimpArgs false

/-! ### strongroomref04_Sum: function 31 -/
def strongroomref04_Sum.l0 : Nat → ByteArray → Int → Int → Int → Option (Int)
  | 0, _, _, _, _ => none
  | k + 1, x0, x3, x4, x5 => if x5 < (x0.size : Int) then (if 0 ≤ x5 then (strongroomref04_Sum.l0 k x0 (IntKind.u64.wrap (x3 + (IntKind.u64.wrap (bt x0 x5)))) (IntKind.u64.wrap (x4 + (IntKind.u64.wrap ((IntKind.u64.wrap (bt x0 x5)) * (IntKind.u64.wrap (wrap64 ((x0.size : Int) - x5))))))) (wrap64 (x5 + 1))) else (none)) else (some ((IntKind.u64.wrap ((Int.tmod x3 65536) + (IntKind.u64.wrap (65536 * (Int.tmod x4 65536))))) % 4294967296))
def strongroomref04_Sum.f (k : Nat) (a0 : ByteArray) : Option (Int) := strongroomref04_Sum.l0 k a0 0 0 0
theorem strongroomref04_Sum.mono_l : ∀ k, (∀ y0 y1 y2 y3, LeO (strongroomref04_Sum.l0 k y0 y1 y2 y3) (strongroomref04_Sum.l0 (k + 1) y0 y1 y2 y3))
  | 0 => fun _ _ _ _ r h => by simp [strongroomref04_Sum.l0] at h
  | k + 1 => by
    have ih0 := strongroomref04_Sum.mono_l k
    · intro y0 y1 y2 y3
      unfold strongroomref04_Sum.l0
      repeat' first
      | (with_reducible exact ih0 _ _ _ _)
      | (with_reducible exact LeO.refl _)
      | (with_reducible exact LeO.none _)
      | (with_reducible refine LeO.ite ?_ ?_)
      | (with_reducible refine LeO.bind ?_ (fun _ => ?_))
      | exact ih0 _ _ _ _
      | exact LeO.none _
      | refine LeO.ite ?_ ?_
      | refine LeO.bind ?_ (fun _ => ?_)
theorem strongroomref04_Sum.mono : ∀ a0 k, LeO (strongroomref04_Sum.f k a0) (strongroomref04_Sum.f (k + 1) a0) := by
  intro a0 k
  have ih0 := strongroomref04_Sum.mono_l k
  unfold strongroomref04_Sum.f
  repeat' first
      | (with_reducible exact ih0 _ _ _ _)
      | (with_reducible exact LeO.refl _)
      | (with_reducible exact LeO.none _)
      | (with_reducible refine LeO.ite ?_ ?_)
      | (with_reducible refine LeO.bind ?_ (fun _ => ?_))
      | exact ih0 _ _ _ _
      | exact LeO.none _
      | refine LeO.ite ?_ ?_
      | refine LeO.bind ?_ (fun _ => ?_)
set_option maxHeartbeats 8000000 in
set_option maxRecDepth 100000 in
theorem strongroomref04_Sum.calls (k : Nat) (a0 : ByteArray) (r : Int) (w : World) (h : strongroomref04_Sum.f k a0 = some r) :
    Calls Try.prog 31 #[.string a0] w fun e w' => e = .returned (.int .u32 r) ∧ Drawn0 w w' := by
  have H : (strongroomref04_Sum.l0 k a0 0 0 0) = some r := h
  clear h
  have H' := Aside0.mk H
  clear H
  go_enter Try.func31, Try.ntmps31
  go_wp2
  go_loopg [3, 4, 5] k (fun kq v3 v4 v5 w' => ∃ (x3_1 : Int) (x4_1 : Int) (x5_1 : Int), v3 = .int .u64 x3_1 ∧ v4 = .int .u64 x4_1 ∧ v5 = .int .i64 x5_1 ∧ Aside0 (strongroomref04_Sum.l0 kq a0 x3_1 x4_1 x5_1 = some r) ∧ Aside0 (kq ≤ k) ∧ Drawn0 w w')
  case atStart => exact ⟨(0), (0), (0), (by first | rfl | (simp; done) | (simp [*]; done)), (by first | rfl | (simp; done) | (simp [*]; done)), (by first | rfl | (simp; done) | (simp [*]; done)), H', ⟨Nat.le_refl _⟩, by repeat (first | exact Drawn0.refl _ | apply Drawn0.step)⟩
  case round =>
    clear H'
    obtain ⟨x3_1, x4_1, x5_1, rfl, rfl, rfl, HA, HK1, ⟨m1, rfl⟩⟩ := hrel
    cases gk with
    | zero => exact absurd HA.out (by simp [strongroomref04_Sum.l0])
    | succ k1 =>
      have H := HA.out
      clear HA
      simp only [strongroomref04_Sum.l0] at H
      by_cases c2 : x5_1 < (a0.size : Int)
      · rw [if_pos c2] at H
        have c2b0 : decide (x5_1 < (a0.size : Int)) = true := decide_eq_true c2
        clear c2
        by_cases c3 : 0 ≤ x5_1
        · rw [if_pos c3] at H
          have c3b0 : decide (0 ≤ x5_1) = true := decide_eq_true c3
          clear c3
          have H' := Aside0.mk H
          clear H
          have p4 : 0 ≤ (x5_1 : Int) := of_decide_eq_true (by first | (with_reducible assumption) | assumption)
          have q4 : x5_1 < (a0.size : Int) := of_decide_eq_true (by first | (with_reducible assumption) | assumption)
          have hx4 := bt_at a0 x5_1
          replace p4 := eq_true p4
          replace q4 := eq_true q4
          have p5 : 0 ≤ (x5_1 : Int) := of_decide_eq_true (by first | (with_reducible assumption) | assumption)
          have q5 : x5_1 < (a0.size : Int) := of_decide_eq_true (by first | (with_reducible assumption) | assumption)
          have hx5 := bt_at a0 x5_1
          replace p5 := eq_true p5
          replace q5 := eq_true q5
          go_wp2
          go_roundg k1
          case measure => have := HK1.out; omega
          case rel => exact ⟨(IntKind.u64.wrap (x3_1 + (IntKind.u64.wrap (bt a0 x5_1)))), (IntKind.u64.wrap (x4_1 + (IntKind.u64.wrap ((IntKind.u64.wrap (bt a0 x5_1)) * (IntKind.u64.wrap (wrap64 ((a0.size : Int) - x5_1))))))), (wrap64 (x5_1 + 1)), (by first | rfl | (simp; done) | (simp [*]; done)), (by first | rfl | (simp; done) | (simp [*]; done)), (by first | rfl | (simp; done) | (simp [*]; done)), H', ⟨by have := HK1.out; omega⟩, by repeat (first | exact Drawn0.refl _ | apply Drawn0.step)⟩
        · rw [if_neg c3] at H
          exact absurd H (by simp)
      · rw [if_neg c2] at H
        have c2b0 : decide (x5_1 < (a0.size : Int)) = false := decide_eq_false c2
        clear c2
        obtain rfl := Option.some.inj H
        go_wp2
        go_ret
        exact ⟨by first | rfl | (simp; done) | (simp [*]; done), by repeat (first | exact Drawn0.refl _ | apply Drawn0.step)⟩

end Go.Proofs.Ytaeobiilihklhaa.F

-- RollMath
namespace Go.Proofs.YtaeobiilihklhaaM
open Go Go.RowKit

def st (s : Int × Int) (c : Int) : Int × Int := (s.1 + c, s.2 + (s.1 + c))
def AB (s : Int × Int) (l : List Int) : Int × Int := l.foldl st s
def weakOf (s : Int × Int) : Int := s.1 % 65536 + 65536 * (s.2 % 65536)
def weak (l : List Int) : Int := weakOf (AB (0, 0) l)

theorem obs {α β : Type} (a : α) (f : α → Option β) : (some a).bind f = f a := by cases h : f a <;> simp [h]
theorem u32_wraps (n : Int) (h₀ : 0 ≤ n) (h₁ : n < 2 ^ 32) : IntKind.u32.wrap n = n := by rw [IntKind.wrap_u32]; omega
theorem and16 (x : Int) (h0 : 0 ≤ x) (h1 : x < 4294967296) : Go.bits .and .u32 x 65535 = x % 65536 :=
  bits_mask .u32 32 (by decide) u32_wraps 16 (by decide) x h0 h1
theorem or16 (x y : Int) (h0 : 0 ≤ x) (h1 : x < 65536) (y0 : 0 ≤ y) (y1 : y < 4294967296) (hy : y % 65536 = 0) : Go.bits .or .u32 x y = x + y := by
  have h := bits_join .u32 32 (by decide) u32_wraps 16 y x y0 (by omega) (by omega) h0 (by omega) (by omega)
  rw [show Go.bits .or .u32 x y = Go.bits .or .u32 y x from ?_, h]; · omega
  unfold Go.bits; simp only [BitVec.or_comm]
theorem make16_eq (a b : Int) (a0 : 0 ≤ a) (a1 : a < 4294967296) :
    Go.bits .or .u32 (Go.bits .and .u32 a 65535) ((b * 65536) % 4294967296) = a % 65536 + 65536 * (b % 65536) := by
  rw [and16 a a0 a1, or16 _ _ (by omega) (by omega) (by omega) (by omega) (by omega)]; omega
theorem AB_append (s : Int × Int) (l m : List Int) : AB s (l ++ m) = AB (AB s l) m := by simp [AB]
theorem AB_shift (s : Int × Int) (l : List Int) : AB s l = (s.1 + (AB (0,0) l).1, s.2 + l.length * s.1 + (AB (0,0) l).2) := by
  induction l generalizing s with
  | nil => simp [AB]
  | cons c l ih =>
    have e1 : AB s (c :: l) = AB (st s c) l := rfl
    have e2 : AB (0,0) (c :: l) = AB (st (0,0) c) l := rfl
    rw [e1, e2, ih (st s c), ih (st (0,0) c)]
    simp only [st, List.length_cons, Int.natCast_add, Int.natCast_one, Int.add_mul, Int.mul_add]
    simp only [Prod.mk.injEq]; constructor <;> (try simp) <;> omega
theorem weakOf_congr {s t : Int × Int} (h1 : s.1 % 65536 = t.1 % 65536) (h2 : s.2 % 65536 = t.2 % 65536) : weakOf s = weakOf t := by
  unfold weakOf; rw [h1, h2]
theorem weakOf_range (s : Int × Int) : 0 ≤ weakOf s ∧ weakOf s < 4294967296 := by unfold weakOf; omega
theorem weakOf_lo (s : Int × Int) : weakOf s % 65536 = s.1 % 65536 := by unfold weakOf; omega
theorem weakOf_hi (s : Int × Int) : weakOf s / 65536 = s.2 % 65536 := by unfold weakOf; omega
theorem weak_append (l m : List Int) : weak (l ++ m) = weakOf ((AB (0,0) l).1 + (AB (0,0) m).1, (AB (0,0) l).2 + m.length * (AB (0,0) l).1 + (AB (0,0) m).2) := by
  unfold weak; rw [AB_append, AB_shift]
theorem mul_congr16 (n p q : Int) (h : p % 65536 = q % 65536) : (n * p) % 65536 = (n * q) % 65536 := by rw [Int.mul_emod, h, ← Int.mul_emod]
theorem u64_wrap (n : Int) : IntKind.u64.wrap n = n % 18446744073709551616 := by simp [IntKind.wrap, IntKind.bits, IntKind.signed]
theorem mul_mod16 (n o : Int) : (n % 4294967296 * o) % 65536 = (n * o) % 65536 := by
  rw [Int.mul_comm, mul_congr16 o (n % 4294967296) n (by omega), Int.mul_comm]
def join (x y size : Int) : Int := (x % 65536 + y % 65536) % 65536 + 65536 * ((x / 65536 + y / 65536 + size * (x % 65536)) % 65536)
theorem join_range (x y size : Int) : 0 ≤ join x y size ∧ join x y size < 4294967296 := by unfold join; omega
theorem weak_range (l : List Int) : 0 ≤ weak l ∧ weak l < 4294967296 := weakOf_range _
theorem join_weak (l m : List Int) : join (weak l) (weak m) m.length = weak (l ++ m) := by
  rw [weak_append]
  unfold join weak
  rw [weakOf_lo, weakOf_lo, weakOf_hi, weakOf_hi]
  unfold weakOf
  have := mul_congr16 m.length ((AB (0,0) l).1 % 65536) (AB (0,0) l).1 (by omega)
  simp only
  omega
/-- the sum of the window that is one on -/
def next (s n o i : Int) : Int := (s % 65536 - o + i) % 65536 + 65536 * ((s / 65536 - n * o + (s % 65536 - o + i)) % 65536)
theorem next_range (s n o i : Int) : 0 ≤ next s n o i ∧ next s n o i < 4294967296 := by unfold next; omega
theorem AB_cons (c : Int) (l : List Int) : AB (0,0) (c :: l) = (c + (AB (0,0) l).1, c + l.length * c + (AB (0,0) l).2) := by
  rw [show AB (0, 0) (c :: l) = AB (st (0,0) c) l from rfl, AB_shift]; simp [st]
theorem AB_snoc (c : Int) (l : List Int) : AB (0,0) (l ++ [c]) = ((AB (0,0) l).1 + c, (AB (0,0) l).2 + ((AB (0,0) l).1 + c)) := by
  rw [AB_append]; rfl
/-- the window goes on by one byte -/
theorem next_weak (o i : Int) (l : List Int) : next (weak (o :: l)) (l.length + 1) o i = weak (l ++ [i]) := by
  unfold next weak
  rw [weakOf_lo, weakOf_hi, AB_cons, AB_snoc]
  unfold weakOf
  simp only
  have : ((l.length : Int) + 1) * o = l.length * o + o := by rw [Int.add_mul]; omega
  rw [this]
  omega
/-- element i, opaque to simp -/
def byteAt (l : List Int) (i : Nat) : Int := l.getD i 0
theorem byteAt_eq (l : List Int) (i : Nat) (h : i < l.length) : byteAt l i = l[i] := by simp [byteAt, h]
theorem byteAt_mem {l : List Int} {i : Nat} (h : i < l.length) : byteAt l i ∈ l := by rw [byteAt_eq l i h]; exact List.getElem_mem h
theorem window_step (l : List Int) (n j : Nat) (h1 : 1 ≤ n) (h : n + j < l.length) :
    next (weak ((l.drop j).take n)) n (byteAt l j) (byteAt l (n + j)) = weak ((l.drop (j + 1)).take n) := by
  obtain ⟨m, rfl⟩ : ∃ m, n = m + 1 := ⟨n - 1, by omega⟩
  rw [byteAt_eq l j (by omega), byteAt_eq l (m + 1 + j) h]
  have e1 : (l.drop j).take (m + 1) = l[j] :: (l.drop (j + 1)).take m := by
    rw [List.drop_eq_getElem_cons (by omega), List.take_succ_cons]
  have e2 : (l.drop (j + 1)).take (m + 1) = (l.drop (j + 1)).take m ++ [l[m + 1 + j]] := by
    rw [List.take_succ_eq_append_getElem (by simp; omega)]
    simp only [List.getElem_drop]
    congr 3; omega
  have e3 : ((l.drop (j + 1)).take m).length = m := by simp; omega
  rw [e1, e2]
  have := next_weak l[j] l[m + 1 + j] ((l.drop (j + 1)).take m)
  rw [e3] at this
  rw [← this]
  congr 1
theorem turned_split (l : List Int) (n : Nat) (h : n + 1 < l.length) : l = l.take n ++ (byteAt l n :: byteAt l (n + 1) :: l.drop (n + 2)) := by
  rw [byteAt_eq l n (by omega), byteAt_eq l (n + 1) h]
  rw [← List.drop_eq_getElem_cons h, ← List.drop_eq_getElem_cons (by omega), List.take_append_drop]
theorem turned_set (l : List Int) (n : Nat) (h : n + 1 < l.length) (p q : Int) : (l.set n q).set (n + 1) p = l.take n ++ (q :: p :: l.drop (n + 2)) := by
  refine List.ext_getElem (by simp; omega) fun i h1 h2 => ?_
  rw [List.getElem_set, List.getElem_set]
  rcases Nat.lt_trichotomy i n with hlt | rfl | hgt
  · rw [if_neg (by omega), if_neg (by omega), List.getElem_append_left (by simp; omega), List.getElem_take]
  · rw [if_neg (by omega), if_pos rfl, List.getElem_append_right (by simp; omega)]
    simp [Nat.min_eq_left (by omega : i ≤ l.length)]
  · rw [List.getElem_append_right (by simp; omega)]
    simp only [List.length_take, Nat.min_eq_left (by omega : n ≤ l.length)]
    by_cases e : i = n + 1
    · subst e; rw [if_pos rfl]; simp
    · rw [if_neg (by omega), if_neg (by omega)]
      obtain ⟨k, rfl⟩ : ∃ k, i = n + 2 + k := ⟨i - (n + 2), by omega⟩
      simp [show n + 2 + k - n = k + 2 from by omega]
theorem turned_bytes (l : List Int) (n : Nat) (h : n + 1 < l.length) (hb : ∀ x ∈ l, 0 ≤ x ∧ x < 256) {m : List Int} (hm : m = (l.set n (byteAt l (n + 1))).set (n + 1) (byteAt l n)) : ∀ x ∈ m, 0 ≤ x ∧ x < 256 := by
  rw [hm, turned_set l n h]
  intro x hx
  rcases List.mem_append.1 hx with hx | hx
  · exact hb x (List.mem_of_mem_take hx)
  · rcases List.mem_cons.1 hx with rfl | hx
    · exact hb _ (byteAt_mem h)
    · rcases List.mem_cons.1 hx with rfl | hx
      · exact hb _ (byteAt_mem (by omega))
      · exact hb x (List.mem_of_mem_drop hx)
/-- two bytes side by side, exchanged -/
theorem turned_law (l : List Int) (n : Nat) (h : n + 1 < l.length) (hb : ∀ x ∈ l, 0 ≤ x ∧ x < 256) {m : List Int} (hm : m = (l.set n (byteAt l (n + 1))).set (n + 1) (byteAt l n)) :
    weak m % 65536 = weak l % 65536 ∧ (((weak m / 65536) - (weak l / 65536)) % 4294967296) % 65536 = ((byteAt l (n + 1) - byteAt l n) % 4294967296) % 65536 ∧ (weak l == weak m) = (byteAt l n == byteAt l (n + 1)) := by
  have b1 := hb _ (byteAt_mem (l := l) (i := n) (by omega))
  have b2 := hb _ (byteAt_mem h)
  have el := turned_split l n h
  rw [turned_set l n h] at hm
  generalize byteAt l n = p at *
  generalize byteAt l (n + 1) = q at *
  generalize l.take n = a at *
  generalize l.drop (n + 2) = z at *
  subst hm
  rw [el]
  rw [weak_append, weak_append, AB_cons, AB_cons, AB_cons, AB_cons]
  simp only [List.length_cons]
  have e1 : (((z.length + 1 : Nat) : Int)) * q = z.length * q + q := by rw [Int.natCast_add, Int.add_mul]; omega
  have e2 : (((z.length + 1 : Nat) : Int)) * p = z.length * p + p := by rw [Int.natCast_add, Int.add_mul]; omega
  rw [e1, e2]
  unfold weakOf
  simp only
  generalize (z.length : Int) * q = u
  generalize (z.length : Int) * p = v
  generalize ((z.length + 1 + 1 : Nat) : Int) * (AB (0,0) a).1 = t
  generalize (AB (0,0) a).1 = a1
  generalize (AB (0,0) a).2 = a2
  generalize (AB (0,0) z).1 = z1
  generalize (AB (0,0) z).2 = z2
  refine ⟨by omega, by omega, ?_⟩
  rw [Bool.eq_iff_iff]
  simp only [beq_iff_eq]
  omega
end Go.Proofs.YtaeobiilihklhaaM

-- Reg
namespace Go.Proofs.YtaeobiilihklhaaR
open Go Go.RowKit

/-- what an operation reads: a temporary, and the last operation ahead of it (in the text) that writes it -/
abbrev Reads := List (Tmp × Option Nat)
/-- its guard: the temporary, and what it must be -/
abbrev GuardT := Option (Tmp × Bool)

def lastW (ops : Array Oper) (p : Nat → Bool) (t : Tmp) : Option Nat :=
  (List.range ops.size).reverse.find? fun j => p j && ((ops[j]?).bind (·.dst) == some t)

def bitsOf (A : List Nat) : List Edge → Nat
  | [] => 0
  | e :: es => (if Region.binds .any e then 2 ^ e.on ||| A.getD e.on 0 else 0) ||| bitsOf A es

def mkAnc (ops : List Oper) : List Nat := ops.foldl (fun A o => A ++ [bitsOf A o.after.toList]) []

def edgesOk (ops : Array Oper) (A : List Nat) : Bool :=
  (List.range ops.size).all fun j => match ops[j]? with
    | none => true
    | some o => A.getD j 0 == bitsOf A o.after.toList && o.after.toList.all fun e => !Region.binds .any e || decide (e.on < j)

def names (ops : Array Oper) (o : Oper) : List Tmp := o.dst.toList ++ o.looksAt ops

def pairsOk (ops : Array Oper) (A : List Nat) : Bool :=
  (List.range ops.size).all fun j => match ops[j]? with
    | none => true
    | some oj => (List.range j).all fun i => match ops[i]? with
      | none => true
      | some oi => (A.getD j 0).testBit i || ((oi.dst.all fun t => !(names ops oj).contains t) && (oj.dst.all fun t => !(oi.looksAt ops).contains t))

def readsOk (ops : Array Oper) (reads : List (Reads × GuardT)) (n : Nat) : Bool :=
  (List.range reads.length).all fun i => match ops[i]?, reads[i]? with
    | some o, some (r, g) =>
      (r.all fun (t, j) => (o.looksAt ops).contains t && lastW ops (fun j => decide (j < i)) t == j) &&
      (o.dst.all fun d => decide (d < n)) &&
      (match o.guard, g with
        | none, none => true
        | some (k, want), some (t, want') => want == want' && (ops[k]?).bind (·.dst) == some t
        | _, _ => false)
    | _, _ => true

def finalOk (ops : Array Oper) (m : Nat) (fin : List (Tmp × Nat)) : Bool :=
  (fin.all fun (t, j) => lastW ops (fun j => decide (j < m)) t == some j) &&
  (ops.toList.take m).all fun o => o.dst.all fun t => (fin.map (·.1)).contains t

/-- from operation m on, each waits for all that stand ahead of it -/
def tailOk (ops : Array Oper) (A : List Nat) (m : Nat) : Bool :=
  decide (m ≤ ops.size) && (List.range ops.size).all fun j => decide (j < m) || (List.range j).all fun i => (A.getD j 0).testBit i

def regionOk (ops : Array Oper) (reads : List (Reads × GuardT)) (fin : List (Tmp × Nat)) (n : Nat) : Bool :=
  let A := mkAnc ops.toList
  edgesOk ops A && pairsOk ops A && readsOk ops reads n && finalOk ops reads.length fin && tailOk ops A reads.length

section
variable (P : Program) (Q : Exit → Act → World → Prop) (R : World → World → Prop) (V : Nat → World → Value → Prop) (a0 : Act) (w0 : World) (E : Act → World → Prop)

def Dep (a : Act) (w : World) : Tmp × Option Nat → Prop
  | (t, some j) => V j w (a.tmps[t]?.getD undef)
  | (t, none) => a.tmps[t]?.getD undef = a0.tmps[t]?.getD undef

def Deps (a : Act) (w : World) : Reads → Prop
  | [] => True
  | r :: rs => Dep V a0 a w r ∧ Deps a w rs

/-- an operation's goal: whatever comes behind it -/
def OpGoal (o : Oper) (g : GuardT) (i : Nat) (a : Act) (w : World) : Prop :=
  match g with
  | none => ∀ K : Act → World → Prop, (∀ v w', R w w' → V i w' v → K (a.put o.dst v) w') → o.wp P a w K Q
  | some (t, want) => (a.tmps[t]?.getD undef = .bool want → ∀ K : Act → World → Prop, (∀ v w', R w w' → V i w' v → K (a.put o.dst v) w') → o.wp P a w K Q) ∧
      (a.tmps[t]?.getD undef ≠ .bool want → V i w undef)

def OpsHold : Nat → List Oper → List (Reads × GuardT) → Prop
  | i, o :: os, (r, g) :: rs => (∀ a w, R w0 w → Deps V a0 a w r → OpGoal P Q R V o g i a w) ∧ OpsHold (i + 1) os rs
  | _, _, _ => True

/-- behind the region: what each temporary holds at last -/
def EndHold : (World → Prop) → List (Tmp × Nat) → Act → Prop
  | F, [], a => ∀ w, R w0 w → F w → E a w
  | F, (t, j) :: fin, a => ∀ v, EndHold (fun w => F w ∧ V j w v) fin (a.put (some t) v)
end

theorem testBit_bitsOf (A : List Nat) (i : Nat) : ∀ es : List Edge, (bitsOf A es).testBit i = true →
    ∃ e ∈ es, Region.binds .any e = true ∧ (e.on = i ∨ (A.getD e.on 0).testBit i = true)
  | [], h => by simp [bitsOf] at h
  | e :: es, h => by
    simp only [bitsOf, Nat.testBit_or, Bool.or_eq_true] at h
    rcases h with h | h
    · split at h
      · rename_i hb
        simp only [Nat.testBit_or, Bool.or_eq_true, Nat.testBit_two_pow, decide_eq_true_eq] at h
        exact ⟨e, by simp, hb, h⟩
      · simp at h
    · obtain ⟨e', he, hb, h'⟩ := testBit_bitsOf A i es h
      exact ⟨e', by simp [he], hb, h'⟩

/-- what is listed is closed downward -/
def Closed (ops : Array Oper) (listed : Array Bool) : Prop :=
  ∀ j o, ops[j]? = some o → listed.getD j false = true → ∀ e ∈ o.after, Region.binds .any e = true → listed.getD e.on false = true

theorem closed_anc {ops : Array Oper} {A : List Nat} {listed : Array Bool} (hA : edgesOk ops A = true) (hc : Closed ops listed) :
    ∀ (j : Nat) (o : Oper), ops[j]? = some o → (∀ e ∈ o.after, Region.binds .any e = true → listed.getD e.on false = true) → ∀ i, (A.getD j 0).testBit i = true → listed.getD i false = true := by
  intro j
  induction j using Nat.strongRecOn with
  | _ j ih =>
    intro o ho hd i hi
    have hj : j < ops.size := (Array.getElem?_eq_some_iff.1 ho).1
    have h1 := List.all_eq_true.1 hA j (List.mem_range.2 hj)
    simp only [ho, Bool.and_eq_true, beq_iff_eq, List.all_eq_true, Bool.or_eq_true, Bool.not_eq_true', decide_eq_true_eq] at h1
    obtain ⟨e1, e2⟩ := h1
    rw [e1] at hi
    obtain ⟨e, he, hb, h⟩ := testBit_bitsOf A i _ hi
    have hlt := (e2 e he).resolve_left (by simp [hb])
    have hl := hd e (by simpa using he) hb
    rcases h with rfl | h
    · exact hl
    · have hek : e.on < ops.size := by omega
      exact ih e.on hlt _ (Array.getElem?_eq_getElem hek) (hc e.on _ (Array.getElem?_eq_getElem hek) hl) i h

theorem getD_set_self {listed : Array Bool} {i : Nat} (h : i < listed.size) (d : Bool) : (listed.setIfInBounds i true).getD i d = true := by
  simp [h]
theorem getD_set_other {listed : Array Bool} {i j : Nat} (d : Bool) (h : i ≠ j) : (listed.setIfInBounds i true).getD j d = listed.getD j d := by
  simp [Array.getElem?_setIfInBounds_ne h]
theorem getD_irrel {listed : Array Bool} {i : Nat} (h : i < listed.size) (d d' : Bool) : listed.getD i d = listed.getD i d' := by simp [h]

theorem lastW_congr {ops : Array Oper} {p q : Nat → Bool} {t : Tmp} (h : ∀ j o, ops[j]? = some o → o.dst = some t → p j = q j) : lastW ops p t = lastW ops q t := by
  unfold lastW
  have aux : ∀ l : List Nat, l.find? (fun j => p j && ((ops[j]?).bind (·.dst) == some t)) = l.find? (fun j => q j && ((ops[j]?).bind (·.dst) == some t)) := by
    intro l
    induction l with
    | nil => rfl
    | cons j l ih =>
      have e : (p j && ((ops[j]?).bind (·.dst) == some t)) = (q j && ((ops[j]?).bind (·.dst) == some t)) := by
        cases ho : ops[j]? with
        | none => simp
        | some o =>
          by_cases hd : o.dst = some t
          · rw [h j o ho hd]
          · simp [show (o.dst == some t) = false from by simpa using hd]
      simp only [List.find?_cons, e, ih]
  exact aux _

theorem lastW_set {ops : Array Oper} {p : Nat → Bool} {i : Nat} {o : Oper} {t : Tmp} (ho : ops[i]? = some o) (hd : o.dst = some t) (hp : p i = true)
    (hno : ∀ j oj, ops[j]? = some oj → oj.dst = some t → i < j → p j = false) : lastW ops p t = some i := by
  unfold lastW
  have hi : i < ops.size := (Array.getElem?_eq_some_iff.1 ho).1
  have : (List.range ops.size) = List.range (i + 1) ++ (List.range' (i + 1) (ops.size - (i + 1))) := by
    rw [List.range_eq_range', List.range_eq_range']
    have := List.range'_append_1 (s := 0) (m := i + 1) (n := ops.size - (i + 1))
    rw [Nat.zero_add] at this
    rw [this]; congr 1; omega
  rw [this, List.reverse_append, List.find?_append]
  rw [List.find?_eq_none.2]
  · rw [List.range_succ, List.reverse_append]
    simp [ho, hd, hp]
  · intro x hx
    simp only [List.mem_reverse, List.mem_range'_1] at hx
    cases hox : ops[x]? with
    | none => simp
    | some ox =>
      by_cases hdx : ox.dst = some t
      · simp [hno x ox hox hdx (by omega)]
      · simp [hdx]

section
variable {P : Program} {ops : Array Oper} {Q : Exit → Act → World → Prop} {R : World → World → Prop} {V : Nat → World → Value → Prop} {a0 : Act} {w0 : World} {E : Act → World → Prop}

/-- what is known between two operations -/
structure Inv (ops : Array Oper) (m : Nat) (R : World → World → Prop) (V : Nat → World → Value → Prop) (a0 : Act) (w0 : World) (listed : Array Bool) (a : Act) (w : World) : Prop where
  step : R w0 w
  size : a.tmps.size = a0.tmps.size
  defers : a.defers = a0.defers
  lsize : listed.size = ops.size
  closed : Closed ops listed
  tail : ∀ j, m ≤ j → listed.getD j false = false
  tmps : ∀ t, match lastW ops (fun j => listed.getD j false) t with
    | some j => V j w (a.tmps[t]?.getD undef)
    | none => a.tmps[t]?.getD undef = a0.tmps[t]?.getD undef

theorem opsHold_at : ∀ (os : List Oper) (rs : List (Reads × GuardT)) (k i : Nat) (o : Oper) (r : Reads) (g : GuardT), OpsHold P Q R V a0 w0 k os rs → os[i]? = some o → rs[i]? = some (r, g) →
    ∀ a w, R w0 w → Deps V a0 a w r → OpGoal P Q R V o g (k + i) a w
  | [], _, _, i, o, r, g, _, ho, _ => by simp at ho
  | o' :: os, [], _, i, o, r, g, _, _, hr => by simp at hr
  | o' :: os, (r', g') :: rs, k, 0, o, r, g, h, ho, hr => by
    simp at ho hr
    obtain ⟨rfl, rfl⟩ := hr
    subst ho
    exact h.1
  | o' :: os, (r', g') :: rs, k, i + 1, o, r, g, h, ho, hr => by
    have := opsHold_at os rs (k + 1) i o r g h.2 (by simpa using ho) (by simpa using hr)
    rw [show k + 1 + i = k + (i + 1) from by omega] at this
    exact this

theorem deps_of (a : Act) (w : World) : ∀ r : Reads, (∀ x ∈ r, Dep V a0 a w x) → Deps V a0 a w r
  | [], _ => trivial
  | x :: r, h => ⟨h x (by simp), deps_of a w r fun y hy => h y (by simp [hy])⟩

theorem unlisted_set {listed : Array Bool} {i : Nat} (h : listed.getD i true = false) (n : Nat) (hn : (listed.toList.count false) ≤ n + 1) : ((listed.setIfInBounds i true).toList.count false) ≤ n := by
  have hi : i < listed.size := by
    rcases Nat.lt_or_ge i listed.size with h' | h'
    · exact h'
    · simp [Array.getElem?_eq_none h'] at h
  have hv : listed[i] = false := by simpa [hi] using h
  rw [Array.toList_setIfInBounds]
  have hl : i < listed.toList.length := by simpa using hi
  rw [List.count_set hl]
  have : listed.toList[i] = false := by simpa using hv
  rw [this]
  simp only [beq_self_eq_true, if_true]
  have hb : (true == false) = false := rfl
  rw [hb]
  simp only [Bool.false_eq_true, if_false]
  omega

theorem all_of_ready {md : Region.Mode} {listed : Array Bool} {A : List Nat} (hm : md = .any) (hA : edgesOk ops A = true) (hs : listed.size = ops.size) (h : Region.ready md ops listed = []) :
    ∀ j, j < ops.size → listed.getD j false = true := by
  subst hm
  intro j
  induction j using Nat.strongRecOn with
  | _ j ih =>
    intro hj
    cases hl : listed.getD j false with
    | true => rfl
    | false =>
      exfalso
      have ho := Array.getElem?_eq_getElem hj
      have h1 := List.all_eq_true.1 hA j (List.mem_range.2 hj)
      simp only [ho, Bool.and_eq_true, beq_iff_eq, List.all_eq_true, Bool.or_eq_true, Bool.not_eq_true', decide_eq_true_eq] at h1
      have : j ∈ Region.ready .any ops listed := mem_ready.2 ⟨by rw [getD_irrel (by omega) true false]; exact hl, _, ho, fun e he hb => ih e.on ((h1.2 e (by simpa using he)).resolve_left (by simp [hb])) (by have := (h1.2 e (by simpa using he)).resolve_left (by simp [hb]); omega)⟩
      rw [h] at this
      cases this

theorem wanted_iff {o : Oper} {k : Nat} {want : Bool} {t : Tmp} {a : Act} (hg : o.guard = some (k, want)) (hk : (ops[k]?).bind (·.dst) = some t) :
    Region.wanted o (yielded ops a.tmps) = true ↔ a.tmps[t]?.getD undef = .bool want := by
  unfold Region.wanted yielded
  rw [hg]
  simp only []
  rw [hk]
  simp only [Option.bind_some]
  cases h : a.tmps[t]? with
  | none => simp [undef]
  | some v => cases v <;> simp

/-- the tail: one behind the other, in the text's order -/
theorem wpAny_tail {A : List Nat} {m : Nat} (hA : edgesOk ops A = true) (hT : tailOk ops A m = true) :
    ∀ (fuel k : Nat) (listed : Array Bool) (a : Act) (w : World), m ≤ k → ops.size ≤ k + fuel → k ≤ ops.size → listed.size = ops.size → (∀ j, listed.getD j false = decide (j < k)) →
      wpList P ops Q (ops.toList.drop k) a w → wpAny P .any ops Q fuel listed a w := by
  simp only [tailOk, Bool.and_eq_true, decide_eq_true_eq, List.all_eq_true, Bool.or_eq_true, List.mem_range] at hT
  have ready_at : ∀ (k : Nat) (listed : Array Bool), m ≤ k → k ≤ ops.size → listed.size = ops.size → (∀ j, listed.getD j false = decide (j < k)) → ∀ i, i ∈ Region.ready .any ops listed ↔ i = k ∧ k < ops.size := by
    intro k listed hmk hk hs hl i
    constructor
    · intro hi
      obtain ⟨hun, o, ho, hd⟩ := mem_ready.1 hi
      have hisz := (Array.getElem?_eq_some_iff.1 ho).1
      have hik : ¬ i < k := by
        have := hl i
        rw [getD_irrel (by omega) false true, hun] at this
        simpa using this.symm
      rcases Nat.lt_or_ge k i with hlt | hge
      · exfalso
        have hb := (hT.2 i hisz).resolve_left (by omega) k hlt
        have hcl : Closed ops listed := by
          intro j oj hoj hlj e he hbe
          have h1 := List.all_eq_true.1 hA j (List.mem_range.2 (Array.getElem?_eq_some_iff.1 hoj).1)
          simp only [hoj, Bool.and_eq_true, beq_iff_eq, List.all_eq_true, Bool.or_eq_true, Bool.not_eq_true', decide_eq_true_eq] at h1
          have := (h1.2 e (by simpa using he)).resolve_left (by simp [hbe])
          rw [hl] at hlj ⊢
          simp at hlj ⊢
          omega
        have := closed_anc hA hcl i o ho hd k hb
        rw [hl] at this
        simp at this
      · exact ⟨by omega, by omega⟩
    · rintro ⟨rfl, hlt⟩
      refine mem_ready.2 ⟨by rw [getD_irrel (by omega) true false, hl]; simp, _, Array.getElem?_eq_getElem hlt, fun e he hbe => ?_⟩
      have h1 := List.all_eq_true.1 hA i (List.mem_range.2 hlt)
      simp only [Array.getElem?_eq_getElem hlt, Bool.and_eq_true, beq_iff_eq, List.all_eq_true, Bool.or_eq_true, Bool.not_eq_true', decide_eq_true_eq] at h1
      have := (h1.2 e (by simpa using he)).resolve_left (by simp [hbe])
      rw [hl]; simpa using this
  intro fuel
  induction fuel with
  | zero =>
    intro k listed a w hmk hf hk hs hl h
    obtain rfl : k = ops.size := by omega
    have hr : Region.ready .any ops listed = [] := by
      refine List.eq_nil_iff_forall_not_mem.2 fun i hi => ?_
      have := (ready_at ops.size listed hmk hk hs hl i).1 hi
      omega
    refine ⟨hr, ?_⟩
    rw [List.drop_of_length_le (by simp)] at h
    exact h
  | succ fuel ih =>
    intro k listed a w hmk hf hk hs hl h
    refine ⟨fun hr => ?_, fun i hi => ?_⟩
    · rcases Nat.lt_or_ge k ops.size with hlt | hge
      · have := (ready_at k listed hmk hk hs hl k).2 ⟨rfl, hlt⟩
        rw [hr] at this; cases this
      · rw [List.drop_of_length_le (by simpa using hge)] at h
        exact h
    · obtain ⟨rfl, hlt⟩ := (ready_at k listed hmk hk hs hl i).1 hi
      have hdrop : ops.toList.drop i = ops[i] :: ops.toList.drop (i + 1) := by
        rw [List.drop_eq_getElem_cons (by simpa using hlt)]; simp
      rw [hdrop] at h
      have hl' : ∀ j, (listed.setIfInBounds i true).getD j false = decide (j < i + 1) := by
        intro j
        by_cases hji : i = j
        · subst hji; rw [getD_set_self (by omega)]; simp
        · rw [getD_set_other _ hji, hl]; simp; omega
      have next : ∀ a' w', wpList P ops Q (ops.toList.drop (i + 1)) a' w' → wpAny P .any ops Q fuel (listed.setIfInBounds i true) a' w' := fun a' w' h' =>
        ih (i + 1) _ a' w' (by omega) (by omega) (by omega) (by simpa using hs) hl' h'
      unfold wpList at h
      unfold wpOp
      simp only [Array.getElem?_eq_getElem hlt]
      split
      · rename_i hw
        rw [if_pos hw] at h
        exact h.imp (Oper.wp_mono next) id
      · rename_i hw
        rw [if_neg hw] at h
        exact next _ _ h

theorem wpAny_inv {A : List Nat} {reads : List (Reads × GuardT)} (hA : edgesOk ops A = true) (hP : pairsOk ops A = true) (hR : readsOk ops reads a0.tmps.size = true) (hT : tailOk ops A reads.length = true)
    (hrf : ∀ w, R w w) (htr : ∀ a b c, R a b → R b c → R a c) (hst : ∀ i w w' v, R w w' → V i w v → V i w' v)
    (hops : OpsHold P Q R V a0 w0 0 ops.toList reads)
    (hend : ∀ listed a w, (∀ j, listed.getD j false = decide (j < reads.length)) → Inv ops reads.length R V a0 w0 listed a w → wpList P ops Q (ops.toList.drop reads.length) a w) :
    ∀ (fuel : Nat) (listed : Array Bool) (a : Act) (w : World), listed.toList.count false ≤ fuel → Inv ops reads.length R V a0 w0 listed a w → wpAny P .any ops Q fuel listed a w := by
  have hT0 := hT
  simp only [tailOk, Bool.and_eq_true, decide_eq_true_eq, List.all_eq_true, Bool.or_eq_true, List.mem_range] at hT0
  -- when all of the head has come up
  have fin : ∀ (fuel : Nat) (listed : Array Bool) (a : Act) (w : World), listed.toList.count false ≤ fuel → Inv ops reads.length R V a0 w0 listed a w → (∀ j, j < reads.length → listed.getD j false = true) → wpAny P .any ops Q fuel listed a w := by
    intro fuel listed a w hf hi hall
    have hl : ∀ j, listed.getD j false = decide (j < reads.length) := by
      intro j
      rcases Nat.lt_or_ge j reads.length with h | h
      · rw [hall j h]; simp [h]
      · rw [hi.tail j h]; simp; omega
    refine wpAny_tail hA hT fuel reads.length listed a w (Nat.le_refl _) ?_ hT0.1 hi.lsize hl (hend listed a w hl hi)
    -- those that are not listed are as many as the tail is long
    have : (listed.toList.drop reads.length).count false = listed.size - reads.length := by
      have h1 : listed.toList.drop reads.length = List.replicate (listed.size - reads.length) false := by
        refine List.ext_getElem (by simp) fun j h1 h2 => ?_
        simp only [List.getElem_drop, List.getElem_replicate]
        have h3 : reads.length + j < listed.size := by simp at h1; omega
        have h4 := hi.tail (reads.length + j) (by omega)
        simpa [h3] using h4
      rw [h1, List.count_replicate_self]
    have h2 : (listed.toList.drop reads.length).count false ≤ listed.toList.count false := List.Sublist.count_le _ (List.drop_sublist _ _)
    have := hi.lsize
    omega
  -- before that, nothing of the tail may come up
  have low : ∀ (listed : Array Bool), listed.size = ops.size → Closed ops listed → ∀ i, i ∈ Region.ready .any ops listed → reads.length ≤ i → ∀ j, j < reads.length → listed.getD j false = true := by
    intro listed hs hc i hi hm j hj
    obtain ⟨hun, o, ho, hd⟩ := mem_ready.1 hi
    have hisz := (Array.getElem?_eq_some_iff.1 ho).1
    exact closed_anc hA hc i o ho hd j ((hT0.2 i hisz).resolve_left (by omega) j (by omega))
  intro fuel
  induction fuel with
  | zero =>
    intro listed a w hf hi
    refine fin 0 listed a w hf hi fun j hj => ?_
    have hjs : j < listed.size := by have := hi.lsize; omega
    cases hl : listed.getD j false with
    | true => rfl
    | false =>
      exfalso
      have hv : listed[j] = false := by simpa [hjs] using hl
      have : 0 < listed.toList.count false := List.count_pos_iff.2 (by rw [← hv]; simp)
      omega
  | succ fuel ih =>
    intro listed a w hf hi
    by_cases hall : ∀ j, j < reads.length → listed.getD j false = true
    · exact fin (fuel + 1) listed a w hf hi hall
    refine ⟨fun h => absurd (fun j hj => all_of_ready rfl hA hi.lsize h j (by omega)) hall, fun i hir => ?_⟩
    have him : i < reads.length := by
      rcases Nat.lt_or_ge i reads.length with h | h
      · exact h
      · exact absurd (low listed hi.lsize hi.closed i hir h) hall
    obtain ⟨hun, o, ho, hdeps⟩ := mem_ready.1 hir
    have hisz : i < ops.size := (Array.getElem?_eq_some_iff.1 ho).1
    have hun' : listed.getD i false = false := by rw [getD_irrel (by rw [hi.lsize]; exact hisz) false true]; exact hun
    simp only [readsOk, List.all_eq_true] at hR
    have hRi := hR i (List.mem_range.2 him)
    have hri : reads[i]? = some (reads[i]'(by omega)) := List.getElem?_eq_getElem (by omega)
    generalize hrg : reads[i]'(by omega) = rg at hri
    obtain ⟨r, g⟩ := rg
    rw [ho, hri] at hRi
    simp only [Bool.and_eq_true, List.all_eq_true] at hRi
    obtain ⟨⟨hr, hdst⟩, hg⟩ := hRi
    -- ancestors of i are listed; descendants are not
    have hanc : ∀ k, (A.getD i 0).testBit k = true → listed.getD k false = true := closed_anc hA hi.closed i o ho hdeps
    have hdesc : ∀ j oj, ops[j]? = some oj → (A.getD j 0).testBit i = true → listed.getD j false = false := by
      intro j oj hoj hb
      cases hl : listed.getD j false with
      | false => rfl
      | true =>
        have := closed_anc hA hi.closed j oj hoj (hi.closed j oj hoj hl) i hb
        rw [this] at hun'; cases hun'
    have pair : ∀ i' j' oi' oj', i' < j' → ops[i']? = some oi' → ops[j']? = some oj' → (A.getD j' 0).testBit i' = true ∨ ((∀ t, oi'.dst = some t → t ∉ names ops oj') ∧ ∀ t, oj'.dst = some t → t ∉ oi'.looksAt ops) := by
      intro i' j' oi' oj' hlt hoi hoj
      have h1 := List.all_eq_true.1 hP j' (List.mem_range.2 (Array.getElem?_eq_some_iff.1 hoj).1)
      simp only [hoj, List.all_eq_true, List.mem_range] at h1
      have h2 := h1 i' hlt
      simp only [hoi, Bool.or_eq_true, Bool.and_eq_true] at h2
      rcases h2 with h2 | ⟨h2, h3⟩
      · exact .inl h2
      · refine .inr ⟨fun t ht => ?_, fun t ht => ?_⟩
        · simp [ht] at h2; exact h2
        · simp [ht] at h3; exact h3
    -- the writers that are listed of what i looks at are those ahead of it
    have hlook : ∀ t ∈ o.looksAt ops, lastW ops (fun j => listed.getD j false) t = lastW ops (fun j => decide (j < i)) t := by
      intro t ht
      refine lastW_congr fun j oj hoj hd => ?_
      rcases Nat.lt_trichotomy j i with hlt | rfl | hgt
      · have := (pair j i oj o hlt hoj ho).resolve_right (fun h => h.1 t hd (List.mem_append_right _ ht))
        simp [hlt, hanc j this]
      · simp [hun']
      · have := (pair i j o oj hgt ho hoj).resolve_right (fun h => h.2 t hd ht)
        rw [hdesc j oj hoj this]
        symm; simp; omega
    have hD : Deps V a0 a w r := by
      refine deps_of a w r fun ⟨t, j⟩ hx => ?_
      have h1 := hr (t, j) hx
      simp only [beq_iff_eq, List.contains_iff_mem] at h1
      have h2 := hi.tmps t
      rw [hlook t h1.1, h1.2] at h2
      cases j <;> exact h2
    have hgoal := opsHold_at ops.toList reads 0 i o r g hops (by simpa using ho) hri a w hi.step hD
    rw [Nat.zero_add] at hgoal
    -- behind operation i
    have next : ∀ v w', R w w' → V i w' v → wpAny P .any ops Q fuel (listed.setIfInBounds i true) (a.put o.dst v) w' := by
      intro v w' hww hv
      refine ih _ _ _ (unlisted_set hun fuel hf) ⟨htr _ _ _ hi.step hww, ?_, ?_, by simp [hi.lsize], ?_, fun j hj => ?_, ?_⟩
      · cases hd : o.dst <;> simp [Act.put, hi.size]
      · cases hd : o.dst <;> simp [Act.put, hi.defers]
      · intro j oj hoj hl e he hb
        by_cases hji : i = j
        · subst hji
          rw [ho] at hoj
          obtain rfl := Option.some.inj hoj
          by_cases hei : i = e.on
          · rw [← hei]; exact getD_set_self (by rw [hi.lsize]; exact hisz) _
          · rw [getD_set_other _ hei]; exact hdeps e he hb
        · rw [getD_set_other _ hji] at hl
          by_cases hei : i = e.on
          · rw [← hei]; exact getD_set_self (by rw [hi.lsize]; exact hisz) _
          · rw [getD_set_other _ hei]; exact hi.closed j oj hoj hl e he hb
      · rw [getD_set_other _ (by omega)]; exact hi.tail j hj
      · intro t
        by_cases hd : o.dst = some t
        · rw [lastW_set ho hd (p := fun j => (listed.setIfInBounds i true).getD j false) (getD_set_self (by rw [hi.lsize]; exact hisz) _) (fun j oj hoj hdj hlt => by
            have := (pair i j o oj hlt ho hoj).resolve_right (fun h => h.1 t hd (by simp [names, hdj]))
            rw [getD_set_other _ (by omega)]
            exact hdesc j oj hoj this)]
          have htn : t < a.tmps.size := by rw [hi.size]; simpa [hd] using hdst
          simp only [hd, Act.put]
          simpa [htn] using hv
        · rw [lastW_congr (q := fun j => listed.getD j false) (fun j oj hoj hdj => by
            by_cases hji : i = j
            · subst hji; rw [ho] at hoj; obtain rfl := Option.some.inj hoj; exact absurd hdj hd
            · exact getD_set_other _ hji)]
          have h2 := hi.tmps t
          have same : (a.put o.dst v).tmps[t]?.getD undef = a.tmps[t]?.getD undef := by
            cases hdd : o.dst with
            | none => rfl
            | some d =>
              have hne : d ≠ t := fun e => hd (by rw [hdd, e])
              simp [Act.put, Array.getElem?_setIfInBounds_ne hne]
          rw [same]
          revert h2
          cases lastW ops (fun j => listed.getD j false) t with
          | none => exact id
          | some j => exact hst j _ _ _ hww
    unfold wpOp
    simp only [ho]
    cases hgg : o.guard with
    | none =>
      rw [hgg] at hg
      cases g with
      | some _ => simp at hg
      | none =>
        rw [if_pos (by simp [Region.wanted, hgg])]
        exact .inl (hgoal _ next)
    | some kw =>
      obtain ⟨k, want⟩ := kw
      rw [hgg] at hg
      cases g with
      | none => simp at hg
      | some tw =>
        obtain ⟨t, want'⟩ := tw
        simp only [Bool.and_eq_true, beq_iff_eq] at hg
        obtain ⟨rfl, hk⟩ := hg
        have hw := wanted_iff (a := a) hgg hk
        by_cases hv : a.tmps[t]?.getD undef = .bool want
        · rw [if_pos (hw.2 hv)]
          exact .inl (hgoal.1 hv _ next)
        · rw [if_neg (fun h => hv (hw.1 h))]
          exact next undef w (hrf w) (hgoal.2 hv)

theorem endHold_at (v : Nat → Value) (w : World) (hR : R w0 w) : ∀ (fin : List (Tmp × Nat)) (F : World → Prop) (a : Act), EndHold R V w0 E F fin a → F w → (∀ x ∈ fin, V x.2 w (v x.1)) →
    E (fin.foldl (fun a x => a.put (some x.1) (v x.1)) a) w
  | [], _, _, h, hF, _ => h w hR hF
  | x :: fin, _, _, h, hF, hx => endHold_at v w hR fin _ _ (h (v x.1)) ⟨hF, hx x (by simp)⟩ (fun y hy => hx y (by simp [hy]))

theorem foldl_put (v : Nat → Value) : ∀ (fin : List (Tmp × Nat)) (a : Act),
    (fin.foldl (fun a x => a.put (some x.1) (v x.1)) a).tmps.size = a.tmps.size ∧ (fin.foldl (fun a x => a.put (some x.1) (v x.1)) a).defers = a.defers ∧
    ∀ t, t < a.tmps.size → (fin.foldl (fun a x => a.put (some x.1) (v x.1)) a).tmps[t]? = if t ∈ fin.map (·.1) then some (v t) else a.tmps[t]?
  | [], a => ⟨rfl, rfl, fun t _ => by simp⟩
  | x :: fin, a => by
    have h := foldl_put v fin (a.put (some x.1) (v x.1))
    simp only [List.foldl_cons]
    have hs : (a.put (some x.1) (v x.1)).tmps.size = a.tmps.size := by simp [Act.put]
    refine ⟨h.1.trans hs, h.2.1.trans rfl, fun t ht => ?_⟩
    rw [h.2.2 t (by rw [hs]; exact ht)]
    by_cases hm : t ∈ fin.map (·.1)
    · rw [if_pos hm, if_pos (by simp only [List.map_cons]; exact List.mem_cons_of_mem _ hm)]
    · rw [if_neg hm]
      by_cases hx : t = x.1
      · subst hx
        rw [if_pos (by simp)]
        simp [Act.put, ht]
      · rw [if_neg (by simp only [List.map_cons, List.mem_cons, not_or]; exact ⟨hx, hm⟩)]
        simp [Act.put, Array.getElem?_setIfInBounds_ne (Ne.symm hx)]

/-- **A region that draws its order, each operation by itself.** R: what may become of the world (reflexive, transitive); V i: what operation i leaves in its temporary (kept by R). Behind the head (as many operations as 'reads' has) the tail goes in the text's order. -/
theorem wp_region_each {id : Nat} {n : Nat} (V : Nat → World → Value → Prop) (R : World → World → Prop) (reads : List (Reads × GuardT)) (fin : List (Tmp × Nat)) {l : List Oper} (tail : List Oper) (hn : a0.tmps.size = n) (hk : regionOk l.toArray reads fin n = true) (hd : l.drop reads.length = tail) (hm : P.follows .mixedOrders = true)
    (hrf : ∀ w, R w w) (htr : ∀ a b c, R a b → R b c → R a c) (hst : ∀ i w w' v, R w w' → V i w v → V i w' v)
    (hops : OpsHold P Q R V a0 w0.drew 0 l reads)
    (hend : EndHold R V w0.drew (wpList P l.toArray Q tail) (fun _ => True) fin a0) :
    (Code.region id l.toArray true).wp P Q a0 w0 := by
  subst hn
  subst hd
  simp only [regionOk, Bool.and_eq_true] at hk
  obtain ⟨⟨⟨⟨hA, hP⟩, hR⟩, hF⟩, hT⟩ := hk
  refine wp_region_any hm ?_
  refine wpAny_inv (w0 := w0.drew) hA hP hR hT hrf htr hst hops ?_ _ _ _ _ (Nat.le_trans List.count_le_length (by simp)) ⟨hrf _, rfl, rfl, by simp, ?_, ?_, ?_⟩
  · intro listed a w hl hi
    simp only [finalOk, Bool.and_eq_true, List.all_eq_true, beq_iff_eq] at hF
    have hF2 : ∀ (j : Nat) (o : Oper) (t : Tmp), l.toArray[j]? = some o → j < reads.length → o.dst = some t → t ∈ fin.map (·.1) := by
      intro j o t ho hj hd
      have := hF.2 o (by
        have h1 : (l.take reads.length)[j]? = some o := by rw [List.getElem?_take_of_lt hj]; simpa using ho
        exact List.mem_of_getElem? h1)
      rw [hd] at this
      simpa using this
    have hlast : ∀ t, lastW l.toArray (fun j => listed.getD j false) t = lastW l.toArray (fun j => decide (j < reads.length)) t := fun t =>
      lastW_congr fun j o ho _ => hl j
    have e : fin.foldl (fun a' x => a'.put (some x.1) ((fun t => a.tmps[t]?.getD undef) x.1)) a0 = a := by
      have h := foldl_put (fun t => a.tmps[t]?.getD undef) fin a0
      have hd : (fin.foldl (fun a' x => a'.put (some x.1) ((fun t => a.tmps[t]?.getD undef) x.1)) a0).defers = a.defers := h.2.1.trans hi.defers.symm
      have ht : (fin.foldl (fun a' x => a'.put (some x.1) ((fun t => a.tmps[t]?.getD undef) x.1)) a0).tmps = a.tmps := by
        refine Array.ext_getElem? fun t => ?_
        rcases Nat.lt_or_ge t a0.tmps.size with hlt | hge
        · rw [h.2.2 t hlt]
          have hat : a.tmps[t]? = some (a.tmps[t]?.getD undef) := by
            have : t < a.tmps.size := by rw [hi.size]; exact hlt
            simp [this]
          by_cases hm : t ∈ fin.map (·.1)
          · rw [if_pos hm]; exact hat.symm
          · rw [if_neg hm]
            have h2 := hi.tmps t
            have hnone : lastW l.toArray (fun j => listed.getD j false) t = none := by
              unfold lastW
              rw [List.find?_eq_none]
              intro j _
              cases ho : l.toArray[j]? with
              | none => simp
              | some o =>
                by_cases hdo : o.dst = some t
                · rcases Nat.lt_or_ge j reads.length with hj | hj
                  · exact absurd (hF2 j o t ho hj hdo) hm
                  · simp only [hi.tail j hj]; simp
                · simp [hdo]
            rw [hnone] at h2
            rw [hat, h2]
            simp [hlt]
        · rw [Array.getElem?_eq_none (by rw [h.1]; exact hge), Array.getElem?_eq_none (by rw [hi.size]; exact hge)]
      generalize fin.foldl (fun a' x => a'.put (some x.1) ((fun t => a.tmps[t]?.getD undef) x.1)) a0 = z at hd ht
      cases z; cases a; simp_all
    have := endHold_at (fun t => a.tmps[t]?.getD undef) w hi.step fin _ a0 hend trivial (fun x hx => by
      have h1 := hF.1 x hx
      have h2 := hi.tmps x.1
      rw [hlast, h1] at h2
      exact h2)
    rw [e] at this
    exact this
  · intro j o ho hl
    exfalso
    have hj : j < l.length := by simpa using (Array.getElem?_eq_some_iff.1 ho).1
    simp [hj] at hl
  · intro j _
    rcases Nat.lt_or_ge j l.length with h | h
    · simp [h]
    · simp [h]
  · intro t
    have : lastW l.toArray (fun j => (Array.replicate l.toArray.size false).getD j false) t = none := by
      unfold lastW
      rw [List.find?_eq_none]
      intro j hj
      have hj : j < l.length := by simpa using hj
      simp [hj]
    rw [this]

/-- the predicates as a list -/
def at_ (Vs : List (World → Value → Prop)) (i : Nat) : World → Value → Prop := Vs.getD i (fun _ _ => True)
def Stable (R : World → World → Prop) : List (World → Value → Prop) → Prop
  | [] => True
  | V :: Vs => (∀ w w' v, R w w' → V w v → V w' v) ∧ Stable R Vs
theorem stable_at : ∀ (Vs : List (World → Value → Prop)), Stable R Vs → ∀ i w w' v, R w w' → at_ Vs i w v → at_ Vs i w' v
  | [], _, _, _, _, _, _, _ => trivial
  | _ :: _, h, 0, w, w', v, hr, hv => h.1 w w' v hr hv
  | _ :: Vs, h, i + 1, w, w', v, hr, hv => stable_at Vs h.2 i w w' v hr hv
end

/-- the world has only grown -/
def Grew (w w' : World) : Prop := Below w.heap.size w w'
theorem Grew.refl (w : World) : Grew w w := Below.refl _ _
theorem Grew.trans {a b c : World} (h : Grew a b) (k : Grew b c) : Grew a c := by
  have k' : Below a.heap.size b c := Below.mono k h.size
  exact Below.trans h k'
theorem Grew.drew (w : World) : Grew w w.drew := ⟨rfl, rfl, rfl, Nat.le_refl _, fun _ _ => rfl⟩
theorem Grew.drewN (w : World) (n : Nat) : Grew w (w.drewN n) := ⟨rfl, rfl, rfl, Nat.le_refl _, fun _ _ => rfl⟩
theorem Grew.alloc (w : World) (o : Obj) : Grew w (w.alloc o) := (Below.refl _ _).alloc (Nat.le_refl _) o

/-- exactly this value -/
def Is (x : Value) : World → Value → Prop := fun _ v => v = x
theorem Is.stable {R : World → World → Prop} (x : Value) : ∀ w w' v, R w w' → Is x w v → Is x w' v := fun _ _ _ _ h => h
/-- a call's end: it returns what V says, and the world has only grown -/
def Tells (w : World) (V : World → Value → Prop) (e : Ending) (w' : World) : Prop := ∃ v, e = .returned v ∧ V w' v ∧ Grew w w'
theorem tells_is {P : Program} {f : FuncId} {args : Array Value} {w : World} {x : Value} (h : Calls P f args w fun e w' => e = .returned x ∧ Below w.heap.size w w') : Calls P f args w (Tells w (Is x)) :=
  h.mono fun _ _ ⟨he, hw⟩ => ⟨x, he, rfl, hw⟩
theorem is_tells {P : Program} {f : FuncId} {args : Array Value} {w : World} {x : Value} (h : Calls P f args w (Tells w (Is x))) : Calls P f args w fun e w' => e = .returned x ∧ Below w.heap.size w w' :=
  h.mono fun _ _ ⟨_, he, hx, hw⟩ => ⟨hx ▸ he, hw⟩

section
variable {R : World → World → Prop} {V : Nat → World → Value → Prop} {w0 : World} {E : Act → World → Prop}
theorem endHold_mono : ∀ (fin : List (Tmp × Nat)) (F F' : World → Prop) (a : Act), (∀ w, F' w → F w) → EndHold R V w0 E F fin a → EndHold R V w0 E F' fin a
  | [], _, _, _, h, k => fun w hR hF => k w hR (h w hF)
  | _ :: fin, _, _, _, h, k => fun v => endHold_mono fin _ _ _ (fun w ⟨h1, h2⟩ => ⟨h w h1, h2⟩) (k v)
theorem endHold_never : ∀ (fin : List (Tmp × Nat)) (F : World → Prop) (a : Act), (∀ w, ¬ F w) → EndHold R V w0 E F fin a
  | [], _, _, h => fun w _ hF => absurd hF (h w)
  | _ :: fin, _, _, h => fun _ => endHold_never fin _ _ (fun w ⟨h1, _⟩ => h w h1)
/-- what comes later, closed to the eye -/
structure Later (E : Act → World → Prop) (a : Act) (w : World) : Prop where
  now : E a w
theorem endHold_later : ∀ (fin : List (Tmp × Nat)) (F : World → Prop) (a : Act), EndHold R V w0 (Later E) F fin a → EndHold R V w0 E F fin a
  | [], _, _, k => fun w hR hF => (k w hR hF).now
  | _ :: fin, _, _, k => fun v => endHold_later fin _ _ (k v)
/-- temporaries whose values are known -/
def AllIs (V : Nat → World → Value → Prop) : List (Tmp × Nat) → List Value → Prop
  | [], [] => True
  | (_, j) :: fin, x :: xs => V j = Is x ∧ AllIs V fin xs
  | _, _ => False
def putEach : List (Tmp × Nat) → List Value → Act → Act
  | (t, _) :: fin, x :: xs, a => putEach fin xs (a.put (some t) x)
  | _, _, a => a
theorem end_all : ∀ {fin : List (Tmp × Nat)} {xs : List Value} {F : World → Prop} {a : Act}, AllIs V fin xs → (∀ w, R w0 w → F w → E (putEach fin xs a) w) → EndHold R V w0 E F fin a
  | [], [], _, _, _, k => k
  | (t, j) :: fin, x :: xs, F, a, h, k => fun v => by
    by_cases e : v = x
    · subst e
      exact endHold_mono fin _ _ _ (fun _ h => h.1) (end_all h.2 k)
    · exact endHold_never fin _ _ (fun w ⟨_, h2⟩ => e (by rw [h.1] at h2; exact h2))
  | [], _ :: _, _, _, h, _ => h.elim
  | _ :: _, [], _, _, h, _ => h.elim
end
def dropN {α β : Type} : List α → List β → List β
  | [], l => l
  | _ :: _, [] => []
  | _ :: r, _ :: l => dropN r l
theorem dropN_eq {α β : Type} : ∀ (r : List α) (l : List β), l.drop r.length = dropN r l
  | [], l => by simp [dropN]
  | _ :: _, [] => by simp [dropN]
  | _ :: r, _ :: l => by simp [dropN, dropN_eq r l]

/-- the rule for a region whose world only grows, its predicates as a list -/
theorem region_grew {P : Program} {Q : Exit → Act → World → Prop} {a0 : Act} {w0 : World} {id : Nat} {n : Nat} {l : List Oper} (Vs : List (World → Value → Prop)) (reads : List (Reads × GuardT)) (fin : List (Tmp × Nat))
    (hn : a0.tmps.size = n) (hk : regionOk l.toArray reads fin n = true) (hm : P.follows .mixedOrders = true)
    (hst : Stable Grew Vs)
    (hops : OpsHold P Q Grew (at_ Vs) a0 w0.drew 0 l reads)
    (hend : EndHold Grew (at_ Vs) w0.drew (Later (wpList P l.toArray Q (dropN reads l))) (fun _ => True) fin a0) :
    (Code.region id l.toArray true).wp P Q a0 w0 :=
  wp_region_each (at_ Vs) Grew reads fin _ hn hk (dropN_eq reads l) hm Grew.refl (fun _ _ _ => Grew.trans) (stable_at Vs hst) hops (endHold_later _ _ _ hend)
/-! ### one operation that turns what was there -/

/-- float: it doesn't look at the world; plain: it comes before the big one; big: it may turn what was there -/
inductive Phase where
  | float | plain | big
  deriving DecidableEq
def phaseOk (A : List Nat) (ks : List Phase) (m : Nat) : Bool :=
  ks.length == m && (List.range m).all fun j => match ks[j]? with
    | some .big => (List.range m).all fun i => i == j || ks[i]? == some .float || (A.getD j 0).testBit i
    | _ => true

section
variable (P : Program) (Q : Exit → Act → World → Prop) (R Rp : World → World → Prop) (V : Nat → World → Value → Prop) (a0 : Act) (w0 : World) (E : Act → World → Prop)
def PhGoal (o : Oper) (g : GuardT) (i : Nat) (r : Reads) : Phase → Prop
  | .plain => ∀ a w, R w0 w → Deps V a0 a w r → OpGoal P Q R V o g i a w
  | .float => ∀ a w, Deps V a0 a w r → OpGoal P Q (fun w w' => w' = w) V o g i a w
  | .big => o.guard = none ∧ ∀ a w, R w0 w → Deps V a0 a w r → ∀ K : Act → World → Prop, (∀ v w', Rp w w' → V i w' v → K (a.put o.dst v) w') → o.wp P a w K Q
def PhHold : Nat → List Oper → List (Reads × GuardT) → List Phase → Prop
  | i, o :: os, (r, g) :: rs, k :: ks => PhGoal P Q R Rp V a0 w0 o g i r k ∧ PhHold (i + 1) os rs ks
  | _, _, _, _ => True
end

section
variable {P : Program} {ops : Array Oper} {Q : Exit → Act → World → Prop} {R Rp : World → World → Prop} {V : Nat → World → Value → Prop} {a0 : Act} {w0 : World} {E : Act → World → Prop}
theorem phHold_at : ∀ (os : List Oper) (rs : List (Reads × GuardT)) (ks : List Phase) (k i : Nat) (o : Oper) (r : Reads) (g : GuardT) (p : Phase), PhHold P Q R Rp V a0 w0 k os rs ks → os[i]? = some o → rs[i]? = some (r, g) → ks[i]? = some p →
    PhGoal P Q R Rp V a0 w0 o g (k + i) r p
  | [], _, _, _, i, o, r, g, p, _, ho, _, _ => by simp at ho
  | o' :: os, [], _, _, i, o, r, g, p, _, _, hr, _ => by simp at hr
  | o' :: os, (r', g') :: rs, [], _, i, o, r, g, p, _, _, _, hk => by simp at hk
  | o' :: os, (r', g') :: rs, p' :: ks, k, 0, o, r, g, p, h, ho, hr, hk => by
    simp at ho hr hk
    obtain ⟨rfl, rfl⟩ := hr
    subst ho
    subst hk
    exact h.1
  | o' :: os, (r', g') :: rs, p' :: ks, k, i + 1, o, r, g, p, h, ho, hr, hk => by
    have := phHold_at os rs ks (k + 1) i o r g p h.2 (by simpa using ho) (by simpa using hr) (by simpa using hk)
    rw [show k + 1 + i = k + (i + 1) from by omega] at this
    exact this
/-- the big one has come -/
def BigIn (ks : List Phase) (listed : Array Bool) : Prop := ∃ p, ks[p]? = some .big ∧ listed.getD p false = true
/-- what is known between two operations -/
structure InvB (ops : Array Oper) (m : Nat) (R Rp : World → World → Prop) (V : Nat → World → Value → Prop) (ks : List Phase) (a0 : Act) (w0 : World) (listed : Array Bool) (a : Act) (w : World) : Prop where
  early : ¬ BigIn ks listed → R w0 w
  late : BigIn ks listed → ∃ w1, R w0 w1 ∧ Rp w1 w
  size : a.tmps.size = a0.tmps.size
  defers : a.defers = a0.defers
  lsize : listed.size = ops.size
  closed : Closed ops listed
  tail : ∀ j, m ≤ j → listed.getD j false = false
  tmps : ∀ t, match lastW ops (fun j => listed.getD j false) t with
    | some j => V j w (a.tmps[t]?.getD undef)
    | none => a.tmps[t]?.getD undef = a0.tmps[t]?.getD undef
theorem lastW_listed {ops : Array Oper} {p : Nat → Bool} {t : Tmp} {j : Nat} (h : lastW ops p t = some j) : p j = true := by
  unfold lastW at h
  have := List.find?_some h
  simp only [Bool.and_eq_true] at this
  exact this.1
theorem wpAny_invB {A : List Nat} {reads : List (Reads × GuardT)} {ks : List Phase} (hA : edgesOk ops A = true) (hP : pairsOk ops A = true) (hR : readsOk ops reads a0.tmps.size = true) (hT : tailOk ops A reads.length = true)
    (hrf : ∀ w, R w w) (htr : ∀ a b c, R a b → R b c → R a c) (hK : phaseOk A ks reads.length = true)
    (hst : ∀ i, ks[i]? ≠ some .big → ∀ w w' v, R w w' ∨ Rp w w' → V i w v → V i w' v)
    (hops : PhHold P Q R Rp V a0 w0 0 ops.toList reads ks)
    (hend : ∀ listed a w, (∀ j, listed.getD j false = decide (j < reads.length)) → InvB ops reads.length R Rp V ks a0 w0 listed a w → wpList P ops Q (ops.toList.drop reads.length) a w) :
    ∀ (fuel : Nat) (listed : Array Bool) (a : Act) (w : World), listed.toList.count false ≤ fuel → InvB ops reads.length R Rp V ks a0 w0 listed a w → wpAny P .any ops Q fuel listed a w := by
  have hT0 := hT
  simp only [tailOk, Bool.and_eq_true, decide_eq_true_eq, List.all_eq_true, Bool.or_eq_true, List.mem_range] at hT0
  -- when all of the head has come up
  have fin : ∀ (fuel : Nat) (listed : Array Bool) (a : Act) (w : World), listed.toList.count false ≤ fuel → InvB ops reads.length R Rp V ks a0 w0 listed a w → (∀ j, j < reads.length → listed.getD j false = true) → wpAny P .any ops Q fuel listed a w := by
    intro fuel listed a w hf hi hall
    have hl : ∀ j, listed.getD j false = decide (j < reads.length) := by
      intro j
      rcases Nat.lt_or_ge j reads.length with h | h
      · rw [hall j h]; simp [h]
      · rw [hi.tail j h]; simp; omega
    refine wpAny_tail hA hT fuel reads.length listed a w (Nat.le_refl _) ?_ hT0.1 hi.lsize hl (hend listed a w hl hi)
    -- those that are not listed are as many as the tail is long
    have : (listed.toList.drop reads.length).count false = listed.size - reads.length := by
      have h1 : listed.toList.drop reads.length = List.replicate (listed.size - reads.length) false := by
        refine List.ext_getElem (by simp) fun j h1 h2 => ?_
        simp only [List.getElem_drop, List.getElem_replicate]
        have h3 : reads.length + j < listed.size := by simp at h1; omega
        have h4 := hi.tail (reads.length + j) (by omega)
        simpa [h3] using h4
      rw [h1, List.count_replicate_self]
    have h2 : (listed.toList.drop reads.length).count false ≤ listed.toList.count false := List.Sublist.count_le _ (List.drop_sublist _ _)
    have := hi.lsize
    omega
  -- before that, nothing of the tail may come up
  have low : ∀ (listed : Array Bool), listed.size = ops.size → Closed ops listed → ∀ i, i ∈ Region.ready .any ops listed → reads.length ≤ i → ∀ j, j < reads.length → listed.getD j false = true := by
    intro listed hs hc i hi hm j hj
    obtain ⟨hun, o, ho, hd⟩ := mem_ready.1 hi
    have hisz := (Array.getElem?_eq_some_iff.1 ho).1
    exact closed_anc hA hc i o ho hd j ((hT0.2 i hisz).resolve_left (by omega) j (by omega))
  intro fuel
  induction fuel with
  | zero =>
    intro listed a w hf hi
    refine fin 0 listed a w hf hi fun j hj => ?_
    have hjs : j < listed.size := by have := hi.lsize; omega
    cases hl : listed.getD j false with
    | true => rfl
    | false =>
      exfalso
      have hv : listed[j] = false := by simpa [hjs] using hl
      have : 0 < listed.toList.count false := List.count_pos_iff.2 (by rw [← hv]; simp)
      omega
  | succ fuel ih =>
    intro listed a w hf hi
    by_cases hall : ∀ j, j < reads.length → listed.getD j false = true
    · exact fin (fuel + 1) listed a w hf hi hall
    refine ⟨fun h => absurd (fun j hj => all_of_ready rfl hA hi.lsize h j (by omega)) hall, fun i hir => ?_⟩
    have him : i < reads.length := by
      rcases Nat.lt_or_ge i reads.length with h | h
      · exact h
      · exact absurd (low listed hi.lsize hi.closed i hir h) hall
    obtain ⟨hun, o, ho, hdeps⟩ := mem_ready.1 hir
    have hisz : i < ops.size := (Array.getElem?_eq_some_iff.1 ho).1
    have hun' : listed.getD i false = false := by rw [getD_irrel (by rw [hi.lsize]; exact hisz) false true]; exact hun
    simp only [readsOk, List.all_eq_true] at hR
    have hRi := hR i (List.mem_range.2 him)
    have hri : reads[i]? = some (reads[i]'(by omega)) := List.getElem?_eq_getElem (by omega)
    generalize hrg : reads[i]'(by omega) = rg at hri
    obtain ⟨r, g⟩ := rg
    rw [ho, hri] at hRi
    simp only [Bool.and_eq_true, List.all_eq_true] at hRi
    obtain ⟨⟨hr, hdst⟩, hg⟩ := hRi
    -- ancestors of i are listed; descendants are not
    have hanc : ∀ k, (A.getD i 0).testBit k = true → listed.getD k false = true := closed_anc hA hi.closed i o ho hdeps
    have hdesc : ∀ j oj, ops[j]? = some oj → (A.getD j 0).testBit i = true → listed.getD j false = false := by
      intro j oj hoj hb
      cases hl : listed.getD j false with
      | false => rfl
      | true =>
        have := closed_anc hA hi.closed j oj hoj (hi.closed j oj hoj hl) i hb
        rw [this] at hun'; cases hun'
    have pair : ∀ i' j' oi' oj', i' < j' → ops[i']? = some oi' → ops[j']? = some oj' → (A.getD j' 0).testBit i' = true ∨ ((∀ t, oi'.dst = some t → t ∉ names ops oj') ∧ ∀ t, oj'.dst = some t → t ∉ oi'.looksAt ops) := by
      intro i' j' oi' oj' hlt hoi hoj
      have h1 := List.all_eq_true.1 hP j' (List.mem_range.2 (Array.getElem?_eq_some_iff.1 hoj).1)
      simp only [hoj, List.all_eq_true, List.mem_range] at h1
      have h2 := h1 i' hlt
      simp only [hoi, Bool.or_eq_true, Bool.and_eq_true] at h2
      rcases h2 with h2 | ⟨h2, h3⟩
      · exact .inl h2
      · refine .inr ⟨fun t ht => ?_, fun t ht => ?_⟩
        · simp [ht] at h2; exact h2
        · simp [ht] at h3; exact h3
    -- the writers that are listed of what i looks at are those ahead of it
    have hlook : ∀ t ∈ o.looksAt ops, lastW ops (fun j => listed.getD j false) t = lastW ops (fun j => decide (j < i)) t := by
      intro t ht
      refine lastW_congr fun j oj hoj hd => ?_
      rcases Nat.lt_trichotomy j i with hlt | rfl | hgt
      · have := (pair j i oj o hlt hoj ho).resolve_right (fun h => h.1 t hd (List.mem_append_right _ ht))
        simp [hlt, hanc j this]
      · simp [hun']
      · have := (pair i j o oj hgt ho hoj).resolve_right (fun h => h.2 t hd ht)
        rw [hdesc j oj hoj this]
        symm; simp; omega
    have hD : Deps V a0 a w r := by
      refine deps_of a w r fun ⟨t, j⟩ hx => ?_
      have h1 := hr (t, j) hx
      simp only [beq_iff_eq, List.contains_iff_mem] at h1
      have h2 := hi.tmps t
      rw [hlook t h1.1, h1.2] at h2
      cases j <;> exact h2
    simp only [phaseOk, Bool.and_eq_true, beq_iff_eq, List.all_eq_true, List.mem_range] at hK
    have hki : ks[i]? = some (ks[i]'(by omega)) := List.getElem?_eq_getElem (by omega)
    generalize hkk : ks[i]'(by omega) = kd at hki
    have hgoal := phHold_at ops.toList reads ks 0 i o r g kd hops (by simpa using ho) hri hki
    rw [Nat.zero_add] at hgoal
    have big_all : ∀ p, ks[p]? = some .big → ∀ j, j < reads.length → j ≠ p → ks[j]? = some .float ∨ (A.getD p 0).testBit j = true := by
      intro p hp j hj hne
      have hpl : p < reads.length := by
        have := (List.getElem?_eq_some_iff.1 hp).1
        omega
      have := hK.2 p hpl
      rw [hp] at this
      simp only [List.all_eq_true, List.mem_range, Bool.or_eq_true, beq_iff_eq] at this
      rcases this j hj with (h | h) | h
      · exact absurd h hne
      · exact .inl h
      · exact .inr h
    have noBig : kd ≠ .float → ¬ BigIn ks listed := by
      rintro hne ⟨p, hp, hl⟩
      by_cases hip : i = p
      · subst hip; rw [hun'] at hl; cases hl
      · rcases big_all p hp i him hip with h | h
        · rw [hki] at h; exact hne (Option.some.inj h)
        · have hpo : p < ops.size := by
            rcases Nat.lt_or_ge p ops.size with h' | h'
            · exact h'
            · rw [show listed.getD p false = false from by simp [Array.getElem?_eq_none (show listed.size ≤ p by rw [hi.lsize]; exact h')]] at hl; cases hl
          have := closed_anc hA hi.closed p _ (Array.getElem?_eq_getElem hpo) (hi.closed p _ (Array.getElem?_eq_getElem hpo) hl) i h
          rw [this] at hun'; cases hun'
    have bigSet : ∀ {k : Phase}, kd = k → k ≠ .big → (BigIn ks (listed.setIfInBounds i true) ↔ BigIn ks listed) := by
      intro k hk hne
      constructor
      · rintro ⟨p, hp, hl⟩
        by_cases hip : i = p
        · subst hip; rw [hki] at hp; exact absurd (hk.symm.trans (Option.some.inj hp)) hne
        · rw [getD_set_other _ hip] at hl; exact ⟨p, hp, hl⟩
      · rintro ⟨p, hp, hl⟩
        by_cases hip : i = p
        · subst hip; rw [hun'] at hl; cases hl
        · exact ⟨p, hp, by rw [getD_set_other _ hip]; exact hl⟩
    have notBig : ∀ j, listed.getD j false = true → ¬ BigIn ks listed → ks[j]? ≠ some .big := fun j hl hb h => hb ⟨j, h, hl⟩
    -- behind operation i
    have next : ∀ v w', (∀ j, j ≠ i → listed.getD j false = true → ∀ u, V j w u → V j w' u) → (¬ BigIn ks (listed.setIfInBounds i true) → R w0 w') → (BigIn ks (listed.setIfInBounds i true) → ∃ w1, R w0 w1 ∧ Rp w1 w') → V i w' v → wpAny P .any ops Q fuel (listed.setIfInBounds i true) (a.put o.dst v) w' := by
      intro v w' hww he hl hv
      refine ih _ _ _ (unlisted_set hun fuel hf) ⟨he, hl, ?_, ?_, by simp [hi.lsize], ?_, fun j hj => ?_, ?_⟩
      · cases hd : o.dst <;> simp [Act.put, hi.size]
      · cases hd : o.dst <;> simp [Act.put, hi.defers]
      · intro j oj hoj hl e he hb
        by_cases hji : i = j
        · subst hji
          rw [ho] at hoj
          obtain rfl := Option.some.inj hoj
          by_cases hei : i = e.on
          · rw [← hei]; exact getD_set_self (by rw [hi.lsize]; exact hisz) _
          · rw [getD_set_other _ hei]; exact hdeps e he hb
        · rw [getD_set_other _ hji] at hl
          by_cases hei : i = e.on
          · rw [← hei]; exact getD_set_self (by rw [hi.lsize]; exact hisz) _
          · rw [getD_set_other _ hei]; exact hi.closed j oj hoj hl e he hb
      · rw [getD_set_other _ (by omega)]; exact hi.tail j hj
      · intro t
        by_cases hd : o.dst = some t
        · rw [lastW_set ho hd (p := fun j => (listed.setIfInBounds i true).getD j false) (getD_set_self (by rw [hi.lsize]; exact hisz) _) (fun j oj hoj hdj hlt => by
            have := (pair i j o oj hlt ho hoj).resolve_right (fun h => h.1 t hd (by simp [names, hdj]))
            rw [getD_set_other _ (by omega)]
            exact hdesc j oj hoj this)]
          have htn : t < a.tmps.size := by rw [hi.size]; simpa [hd] using hdst
          simp only [hd, Act.put]
          simpa [htn] using hv
        · rw [lastW_congr (q := fun j => listed.getD j false) (fun j oj hoj hdj => by
            by_cases hji : i = j
            · subst hji; rw [ho] at hoj; obtain rfl := Option.some.inj hoj; exact absurd hdj hd
            · exact getD_set_other _ hji)]
          have h2 := hi.tmps t
          have same : (a.put o.dst v).tmps[t]?.getD undef = a.tmps[t]?.getD undef := by
            cases hdd : o.dst with
            | none => rfl
            | some d =>
              have hne : d ≠ t := fun e => hd (by rw [hdd, e])
              simp [Act.put, Array.getElem?_setIfInBounds_ne hne]
          rw [same]
          revert h2
          cases hlw : lastW ops (fun j => listed.getD j false) t with
          | none => exact id
          | some j =>
            have hlj := lastW_listed hlw
            refine hww j ?_ hlj _
            intro e
            subst e
            rw [hun'] at hlj
            cases hlj
    unfold wpOp
    simp only [ho]
    cases kd with
    | big =>
      obtain ⟨hgn, hgoal⟩ := hgoal
      have hnb := noBig (by simp)
      rw [if_pos (by simp [Region.wanted, hgn])]
      refine .inl (hgoal a w (hi.early hnb) hD _ fun v w' hrp hv => ?_)
      have hbig : BigIn ks (listed.setIfInBounds i true) := ⟨i, hki, getD_set_self (by rw [hi.lsize]; exact hisz) _⟩
      exact next v w' (fun j _ hl u hu => hst j (notBig j hl hnb) w w' u (.inr hrp) hu) (fun h => absurd hbig h) (fun _ => ⟨w, hi.early hnb, hrp⟩) hv
    | plain =>
      have hnb := noBig (by simp)
      have hgoal := hgoal a w (hi.early hnb) hD
      have hs := bigSet rfl (by simp)
      have nx : ∀ v w', R w w' → V i w' v → wpAny P .any ops Q fuel (listed.setIfInBounds i true) (a.put o.dst v) w' := fun v w' hr hv =>
        next v w' (fun j _ hl u hu => hst j (notBig j hl hnb) w w' u (.inl hr) hu) (fun _ => htr _ _ _ (hi.early hnb) hr) (fun h => absurd (hs.1 h) hnb) hv
      cases hgg : o.guard with
      | none =>
        rw [hgg] at hg
        cases g with
        | some _ => simp at hg
        | none =>
          rw [if_pos (by simp [Region.wanted, hgg])]
          exact .inl (hgoal _ nx)
      | some kw =>
        obtain ⟨k, want⟩ := kw
        rw [hgg] at hg
        cases g with
        | none => simp at hg
        | some tw =>
          obtain ⟨t, want'⟩ := tw
          simp only [Bool.and_eq_true, beq_iff_eq] at hg
          obtain ⟨rfl, hk⟩ := hg
          have hw := wanted_iff (a := a) hgg hk
          by_cases hv : a.tmps[t]?.getD undef = .bool want
          · rw [if_pos (hw.2 hv)]
            exact .inl (hgoal.1 hv _ nx)
          · rw [if_neg (fun h => hv (hw.1 h))]
            exact nx undef w (hrf w) (hgoal.2 hv)
    | float =>
      have hgoal := hgoal a w hD
      have hs := bigSet rfl (by simp)
      have nx : ∀ v w', w' = w → V i w' v → wpAny P .any ops Q fuel (listed.setIfInBounds i true) (a.put o.dst v) w' := fun v w' hr hv => by
        subst hr
        exact next v w' (fun j _ _ u hu => hu) (fun h => hi.early (fun hb => h (hs.2 hb))) (fun h => hi.late (hs.1 h)) hv
      cases hgg : o.guard with
      | none =>
        rw [hgg] at hg
        cases g with
        | some _ => simp at hg
        | none =>
          rw [if_pos (by simp [Region.wanted, hgg])]
          exact .inl (hgoal _ nx)
      | some kw =>
        obtain ⟨k, want⟩ := kw
        rw [hgg] at hg
        cases g with
        | none => simp at hg
        | some tw =>
          obtain ⟨t, want'⟩ := tw
          simp only [Bool.and_eq_true, beq_iff_eq] at hg
          obtain ⟨rfl, hk⟩ := hg
          have hw := wanted_iff (a := a) hgg hk
          by_cases hv : a.tmps[t]?.getD undef = .bool want
          · rw [if_pos (hw.2 hv)]
            exact .inl (hgoal.1 hv _ nx)
          · rw [if_neg (fun h => hv (hw.1 h))]
            exact nx undef w rfl (hgoal.2 hv)
end

section
variable {P : Program} {Q : Exit → Act → World → Prop} {V : Nat → World → Value → Prop} {a0 : Act} {w0 : World} {E : Act → World → Prop}
theorem wp_region_big {id : Nat} {n : Nat} (ks : List Phase) (V : Nat → World → Value → Prop) (R Rp : World → World → Prop) (reads : List (Reads × GuardT)) (fin : List (Tmp × Nat)) {l : List Oper} (tail : List Oper) (hn : a0.tmps.size = n) (hk : regionOk l.toArray reads fin n = true) (hd : l.drop reads.length = tail) (hm : P.follows .mixedOrders = true)
    (hrf : ∀ w, R w w) (htr : ∀ a b c, R a b → R b c → R a c) (hK : phaseOk (mkAnc l) ks reads.length = true) (hb : ks.contains .big = true)
    (hst : ∀ i, ks[i]? ≠ some .big → ∀ w w' v, R w w' ∨ Rp w w' → V i w v → V i w' v)
    (hops : PhHold P Q R Rp V a0 w0.drew 0 l reads ks)
    (hend : EndHold (fun w w' => ∃ w1, R w w1 ∧ Rp w1 w') V w0.drew (wpList P l.toArray Q tail) (fun _ => True) fin a0) :
    (Code.region id l.toArray true).wp P Q a0 w0 := by
  subst hn
  subst hd
  simp only [regionOk, Bool.and_eq_true] at hk
  obtain ⟨⟨⟨⟨hA, hP⟩, hR⟩, hF⟩, hT⟩ := hk
  refine wp_region_any hm ?_
  refine wpAny_invB (Rp := Rp) (ks := ks) (w0 := w0.drew) hA hP hR hT hrf htr hK hst hops ?_ _ _ _ _ (Nat.le_trans List.count_le_length (by simp)) ⟨fun _ => hrf _, ?_, rfl, rfl, by simp, ?_, ?_, ?_⟩
  · intro listed a w hl hi
    simp only [finalOk, Bool.and_eq_true, List.all_eq_true, beq_iff_eq] at hF
    have hF2 : ∀ (j : Nat) (o : Oper) (t : Tmp), l.toArray[j]? = some o → j < reads.length → o.dst = some t → t ∈ fin.map (·.1) := by
      intro j o t ho hj hd
      have := hF.2 o (by
        have h1 : (l.take reads.length)[j]? = some o := by rw [List.getElem?_take_of_lt hj]; simpa using ho
        exact List.mem_of_getElem? h1)
      rw [hd] at this
      simpa using this
    have hlast : ∀ t, lastW l.toArray (fun j => listed.getD j false) t = lastW l.toArray (fun j => decide (j < reads.length)) t := fun t =>
      lastW_congr fun j o ho _ => hl j
    have e : fin.foldl (fun a' x => a'.put (some x.1) ((fun t => a.tmps[t]?.getD undef) x.1)) a0 = a := by
      have h := foldl_put (fun t => a.tmps[t]?.getD undef) fin a0
      have hd : (fin.foldl (fun a' x => a'.put (some x.1) ((fun t => a.tmps[t]?.getD undef) x.1)) a0).defers = a.defers := h.2.1.trans hi.defers.symm
      have ht : (fin.foldl (fun a' x => a'.put (some x.1) ((fun t => a.tmps[t]?.getD undef) x.1)) a0).tmps = a.tmps := by
        refine Array.ext_getElem? fun t => ?_
        rcases Nat.lt_or_ge t a0.tmps.size with hlt | hge
        · rw [h.2.2 t hlt]
          have hat : a.tmps[t]? = some (a.tmps[t]?.getD undef) := by
            have : t < a.tmps.size := by rw [hi.size]; exact hlt
            simp [this]
          by_cases hm : t ∈ fin.map (·.1)
          · rw [if_pos hm]; exact hat.symm
          · rw [if_neg hm]
            have h2 := hi.tmps t
            have hnone : lastW l.toArray (fun j => listed.getD j false) t = none := by
              unfold lastW
              rw [List.find?_eq_none]
              intro j _
              cases ho : l.toArray[j]? with
              | none => simp
              | some o =>
                by_cases hdo : o.dst = some t
                · rcases Nat.lt_or_ge j reads.length with hj | hj
                  · exact absurd (hF2 j o t ho hj hdo) hm
                  · simp only [hi.tail j hj]; simp
                · simp [hdo]
            rw [hnone] at h2
            rw [hat, h2]
            simp [hlt]
        · rw [Array.getElem?_eq_none (by rw [h.1]; exact hge), Array.getElem?_eq_none (by rw [hi.size]; exact hge)]
      generalize fin.foldl (fun a' x => a'.put (some x.1) ((fun t => a.tmps[t]?.getD undef) x.1)) a0 = z at hd ht
      cases z; cases a; simp_all
    have hbin : BigIn ks listed := by
      have hmem := List.contains_iff_mem.1 hb
      obtain ⟨p, hp⟩ := List.mem_iff_getElem?.1 hmem
      refine ⟨p, hp, ?_⟩
      rw [hl p]
      have h1 := (List.getElem?_eq_some_iff.1 hp).1
      have h2 := hK
      simp only [phaseOk, Bool.and_eq_true, beq_iff_eq] at h2
      simp; omega
    have := endHold_at (fun t => a.tmps[t]?.getD undef) w (hi.late hbin) fin _ a0 hend trivial (fun x hx => by
      have h1 := hF.1 x hx
      have h2 := hi.tmps x.1
      rw [hlast, h1] at h2
      exact h2)
    rw [e] at this
    exact this
  · rintro ⟨p, _, hp⟩
    exfalso
    rcases Nat.lt_or_ge p l.length with h | h
    · simp [h] at hp
    · simp [h] at hp
  · intro j o ho hl
    exfalso
    have hj : j < l.length := by simpa using (Array.getElem?_eq_some_iff.1 ho).1
    simp [hj] at hl
  · intro j _
    rcases Nat.lt_or_ge j l.length with h | h
    · simp [h]
    · simp [h]
  · intro t
    have : lastW l.toArray (fun j => (Array.replicate l.toArray.size false).getD j false) t = none := by
      unfold lastW
      rw [List.find?_eq_none]
      intro j hj
      have hj : j < l.length := by simpa using hj
      simp [hj]
    rw [this]


end

/-- the predicates of all but the big one are kept by both -/
def StableB (R Rp : World → World → Prop) : List Phase → List (World → Value → Prop) → Prop
  | k :: ks, V :: Vs => (k ≠ .big → ∀ w w' v, R w w' ∨ Rp w w' → V w v → V w' v) ∧ StableB R Rp ks Vs
  | _, _ => True
theorem stableB_at {R Rp : World → World → Prop} : ∀ (ks : List Phase) (Vs : List (World → Value → Prop)), ks.length = Vs.length → StableB R Rp ks Vs → ∀ i, ks[i]? ≠ some .big → ∀ w w' v, R w w' ∨ Rp w w' → at_ Vs i w v → at_ Vs i w' v
  | [], [], _, _, _, _, _, _, _, _, _ => trivial
  | k :: ks, V :: Vs, hl, h, 0, hn, w, w', v, hr, hv => h.1 (fun e => hn (by simp [e])) w w' v hr hv
  | k :: ks, V :: Vs, hl, h, i + 1, hn, w, w', v, hr, hv => stableB_at ks Vs (by simpa using hl) h.2 i (by simpa using hn) w w' v hr hv
theorem Is.stableB {R Rp : World → World → Prop} (x : Value) : ∀ w w' v, R w w' ∨ Rp w w' → Is x w v → Is x w' v := fun _ _ _ _ h => h
theorem region_big {P : Program} {Q : Exit → Act → World → Prop} {a0 : Act} {w0 : World} {id : Nat} {n : Nat} {l : List Oper} (Rp : World → World → Prop) (ks : List Phase) (Vs : List (World → Value → Prop)) (reads : List (Reads × GuardT)) (fin : List (Tmp × Nat))
    (hn : a0.tmps.size = n) (hk : regionOk l.toArray reads fin n = true) (hK : phaseOk (mkAnc l) ks reads.length = true) (hb : ks.contains .big = true) (hm : P.follows .mixedOrders = true) (hv : ks.length = Vs.length)
    (hst : StableB Grew Rp ks Vs)
    (hops : PhHold P Q Grew Rp (at_ Vs) a0 w0.drew 0 l reads ks)
    (hend : EndHold (fun w w' => ∃ w1, Grew w w1 ∧ Rp w1 w') (at_ Vs) w0.drew (Later (wpList P l.toArray Q (dropN reads l))) (fun _ => True) fin a0) :
    (Code.region id l.toArray true).wp P Q a0 w0 :=
  wp_region_big ks (at_ Vs) Grew Rp reads fin _ hn hk (dropN_eq reads l) hm Grew.refl (fun _ _ _ => Grew.trans) hK hb (stableB_at ks Vs hv hst) hops (endHold_later _ _ _ hend)
end Go.Proofs.YtaeobiilihklhaaR

-- RollC
namespace Go.Proofs.Ytaeobiilihklhaa.F
open Go Go.RowKit Go.Proofs.YtaeobiilihklhaaW.PrintWords Go.Proofs.YtaeobiilihklhaaW.PrintLast Go.Proofs.YtaeobiilihklhaaW.PrintMore Go.Proofs.YtaeobiilihklhaaM Go.Proofs.YtaeobiilihklhaaR
set_option linter.unusedSimpArgs false
set_option linter.unusedVariables false
theorem drawn_below {w w' : World} (h : Drawn0 w w') : Below w.heap.size w w' := h.below
theorem bytes_of {l : List Int} (h : ∀ x ∈ l, (Lit.int .u8 x).wf = true) : ∀ x ∈ l, 0 ≤ x ∧ x < 256 := by
  intro x hx
  have := h x hx
  simp [Lit.wf, IntKind.min, IntKind.max, IntKind.bits, IntKind.signed] at this
  omega
theorem make16_f (a b : Int) (a0 : 0 ≤ a) (a1 : a < 4294967296) : roll_make16.f a b = some (a % 65536 + 65536 * (b % 65536)) := by
  unfold roll_make16.f; rw [make16_eq a b a0 a1]
theorem make16_c (a b : Int) (w : World) (a0 : 0 ≤ a) (a1 : a < 4294967296) :
    Calls Try.prog 34 #[.int .u32 a, .int .u32 b] w (Tells w (Is (.int .u32 (a % 65536 + 65536 * (b % 65536))))) :=
  tells_is ((roll_make16.calls a b _ w (make16_f a b a0 a1)).mono fun _ _ ⟨h, k⟩ => ⟨h, drawn_below k⟩)
theorem rd_append (pre : List Int) (c : Int) (post : List Int) : rd (pre ++ c :: post) (pre.length : Int) = c := by
  unfold rd; simp [List.getD]
theorem sum_l0 (l : List Int) (hl : l.length ≤ 140737488351232) (hb : ∀ x ∈ l, 0 ≤ x ∧ x < 256) :
    ∀ (post pre : List Int) (x y : Int) (k : Nat), l = pre ++ post → post.length < k → 0 ≤ x → x < 4294967296 → 0 ≤ y → y < 4294967296 →
      roll_Sum.l0 k x y l (l.length : Int) (pre.length : Int) = some (weakOf (AB (x, y) post)) := by
  intro post
  induction post with
  | nil =>
    intro pre x y k h hk x0 x1 y0 y1
    obtain ⟨k, rfl⟩ : ∃ m, k = m + 1 := ⟨k - 1, by omega⟩
    have : pre.length = l.length := by simp [h]
    simp only [roll_Sum.l0]; rw [if_neg (by omega), make16_f _ _ x0 x1]; simp [weakOf, AB]
  | cons c post ih =>
    intro pre x y k h hk x0 x1 y0 y1
    obtain ⟨k, rfl⟩ : ∃ m, k = m + 1 := ⟨k - 1, by simp at hk; omega⟩
    have hlen : l.length = pre.length + (post.length + 1) := by simp [h]
    have hc : rd l (pre.length : Int) = c := by rw [h]; exact rd_append pre c post
    have hc2 := hb c (by simp [h])
    simp only [roll_Sum.l0]
    rw [if_pos (by omega), if_pos (by omega), if_pos (by omega), hc, show wrap64 ((pre.length : Int) + 1) = ((pre ++ [c]).length : Int) from by unfold wrap64; simp; omega]
    rw [ih (pre ++ [c]) _ _ k (by simp [h]) (by simp at hk; omega) (by omega) (by omega) (by omega) (by omega)]
    rw [show AB (x, y) (c :: post) = AB (st (x,y) c) post from rfl]
    rw [AB_shift, AB_shift (st (x,y) c)]
    congr 1; apply weakOf_congr
    · simp only [st]; omega
    · simp only [st]
      have := mul_congr16 post.length ((x + c % 4294967296) % 4294967296) (x + c) (by omega)
      omega
theorem sum_f (l : List Int) (hl : l.length ≤ 140737488351232) (hb : ∀ x ∈ l, 0 ≤ x ∧ x < 256) (k : Nat) (hk : l.length < k) : roll_Sum.f k l = some (weak l) := by
  unfold roll_Sum.f
  exact sum_l0 l hl hb l [] 0 0 k rfl hk (by omega) (by omega) (by omega) (by omega)
theorem sum_c (A : Option Addr) (c : Nat) (l : List Int) (w : World) (hr : Kd.C (Kd.int .u8) w A l.length l) (hc : l.length ≤ c) (hl : l.length ≤ 140737488351232) (hb : ∀ x ∈ l, 0 ≤ x ∧ x < 256) :
    Calls Try.prog 30 #[.slice A l.length c] w (Tells w (Is (.int .u32 (weak l)))) :=
  tells_is ((roll_Sum.calls (l.length + 1) A c l _ w hr hc (sum_f l hl hb _ (by omega))).mono fun _ _ ⟨h, k⟩ => ⟨h, drawn_below k⟩)

theorem str_size (l : List Int) : (strOfNums l).size = l.length := by
  unfold strOfNums; simp [ByteArray.size]
theorem bytesOf_str {l : List Int} (h : ∀ x ∈ l, 0 ≤ x ∧ x < 256) : bytesOf (strOfNums l) = l := by
  unfold bytesOf strOfNums
  simp only [List.map_map]
  refine List.ext_getElem (by simp) fun i h1 h2 => ?_
  have := h (l[i]) (List.getElem_mem _)
  simp [Function.comp]
  omega
theorem bt_byte (s : ByteArray) (i : Int) : 0 ≤ bt s i ∧ bt s i < 256 := by have := bt_range s i; omega
theorem bytesOf_byte (s : ByteArray) : ∀ x ∈ bytesOf s, 0 ≤ x ∧ x < 256 := by
  intro x hx
  obtain ⟨b, _, rfl⟩ := List.mem_map.1 hx
  have := b.toNat_lt
  omega
theorem rsum_l0 (s : ByteArray) (hs : s.size ≤ 140737488351232) :
    ∀ (post pre : List Int) (x y : Int) (k : Nat), bytesOf s = pre ++ post → post.length < k → 0 ≤ x → x < 18446744073709551616 → 0 ≤ y → y < 18446744073709551616 →
      strongroomref04_Sum.l0 k s x y (pre.length : Int) = some (weakOf (x + (AB (0,0) post).1, y + (AB (0,0) post).2)) := by
  intro post
  have hsl : (bytesOf s).length = s.size := bytesOf_length s
  induction post with
  | nil =>
    intro pre x y k h hk x0 x1 y0 y1
    obtain ⟨k, rfl⟩ : ∃ m, k = m + 1 := ⟨k - 1, by omega⟩
    have : pre.length = s.size := by rw [← hsl, h]; simp
    simp only [strongroomref04_Sum.l0]; rw [if_neg (by omega), Int.tmod_eq_emod_of_nonneg x0, Int.tmod_eq_emod_of_nonneg y0]
    simp only [u64_wrap, weakOf, AB, List.foldl_nil, Int.add_zero]
    congr 1
    omega
  | cons c post ih =>
    intro pre x y k h hk x0 x1 y0 y1
    obtain ⟨k, rfl⟩ : ∃ m, k = m + 1 := ⟨k - 1, by simp at hk; omega⟩
    have hlen : s.size = pre.length + (post.length + 1) := by rw [← hsl, h]; simp
    have hc : bt s (pre.length : Int) = c := by rw [← rd_bytesOf, h]; exact rd_append pre c post
    have hc2 := bt_byte s (pre.length : Int)
    rw [hc] at hc2
    simp only [strongroomref04_Sum.l0]
    rw [if_pos (by omega), if_pos (by omega), hc, show wrap64 ((pre.length : Int) + 1) = ((pre ++ [c]).length : Int) from by unfold wrap64; simp; omega]
    simp only [u64_wrap]
    rw [ih (pre ++ [c]) _ _ k (by simp [h]) (by simp at hk; omega) (by omega) (by omega) (by omega) (by omega)]
    rw [show AB (0, 0) (c :: post) = AB (st (0,0) c) post from rfl, AB_shift (st (0,0) c)]
    congr 1; apply weakOf_congr
    · simp only [st]; omega
    · simp only [st]
      have e : wrap64 ((s.size : Int) - (pre.length : Int)) = (post.length : Int) + 1 := by unfold wrap64; omega
      rw [e, show c % 18446744073709551616 = c from by omega, show ((post.length : Int) + 1) % 18446744073709551616 = (post.length : Int) + 1 from by omega]
      have : c * ((post.length : Int) + 1) = (post.length : Int) * c + c := by rw [Int.mul_add, Int.mul_comm]; omega
      rw [this]
      simp only [Int.zero_add]
      omega
theorem rsum_f (s : ByteArray) (hs : s.size ≤ 140737488351232) (k : Nat) (hk : s.size < k) : strongroomref04_Sum.f k s = some (weak (bytesOf s)) := by
  unfold strongroomref04_Sum.f
  have := rsum_l0 s hs (bytesOf s) [] 0 0 k rfl (by rw [bytesOf_length]; exact hk) (by omega) (by omega) (by omega) (by omega)
  simpa [weak] using this
theorem rsum_c (s : ByteArray) (w : World) (hs : s.size ≤ 140737488351232) :
    Calls Try.prog 31 #[.string s] w (Tells w (Is (.int .u32 (weak (bytesOf s))))) :=
  tells_is ((strongroomref04_Sum.calls (s.size + 1) s _ w (rsum_f s hs _ (by omega))).mono fun _ _ ⟨h, k⟩ => ⟨h, drawn_below k⟩)
end Go.Proofs.Ytaeobiilihklhaa.F

-- F33
namespace Go.Proofs.Ytaeobiilihklhaa.F
open Go.RowKit Go.Proofs.YtaeobiilihklhaaW.PrintWords Go.Proofs.YtaeobiilihklhaaW.PrintLast Go.Proofs.YtaeobiilihklhaaW.PrintMore
attribute [local go_sem] max2_int min2_int max_two min_two max_three min_three max_four min_four   -- for this text's walks alone
set_option linter.unusedVariables false
set_option linter.unusedSimpArgs false

/-! ### roll_Join: function 33 -/
def roll_Join.f (a0 : Int) (a1 : Int) (a2 : Int) : Option (Int) := (roll_make16.f (((Go.bits .and .u32 a0 65535) + (Go.bits .and .u32 a1 65535)) % 4294967296) (((((a0 / 65536) + (a1 / 65536)) % 4294967296) + ((((a2) % 4294967296) * (Go.bits .and .u32 a0 65535)) % 4294967296)) % 4294967296)).bind fun t102 => (some t102)
set_option maxHeartbeats 8000000 in
set_option maxRecDepth 100000 in
theorem roll_Join.calls (a0 : Int) (a1 : Int) (a2 : Int) (r : Int) (w : World) (h : roll_Join.f a0 a1 a2 = some r) :
    Calls Try.prog 33 #[.int .u32 a0, .int .u32 a1, .int .i64 a2] w fun e w' => e = .returned (.int .u32 r) ∧ Drawn0 w w' := by
  have H : ((roll_make16.f (((Go.bits .and .u32 a0 65535) + (Go.bits .and .u32 a1 65535)) % 4294967296) (((((a0 / 65536) + (a1 / 65536)) % 4294967296) + ((((a2) % 4294967296) * (Go.bits .and .u32 a0 65535)) % 4294967296)) % 4294967296)).bind fun t102 => (some t102)) = some r := h
  clear h
  replace H := Option.bind_eq_some_iff.mp H
  obtain ⟨t102, A40, H⟩ := H
  replace H : (some t102) = some r := H
  have A4 := Aside0.mk A40
  clear A40
  obtain rfl := Option.some.inj H
  go_enter Try.func33, Try.ntmps33
  go_wp2_with (first | ((with_reducible refine gate_callee (f := 34) rfl ?_); refine goesL_ (some 23) rfl rfl Try.func34 (by kernel_rfl) rfl #[.int .u32 (((Go.bits .and .u32 a0 65535) + (Go.bits .and .u32 a1 65535)) % 4294967296), .int .u32 (((((a0 / 65536) + (a1 / 65536)) % 4294967296) + ((((a2) % 4294967296) * (Go.bits .and .u32 a0 65535)) % 4294967296)) % 4294967296)] rfl (by (try simp only [List.map_toArray, List.map_cons, List.map_nil]); first | done | rfl | (simp only [List.length_drop, List.length_take]; rfl)) ?_; (with_reducible refine (roll_make16.calls (((Go.bits .and .u32 a0 65535) + (Go.bits .and .u32 a1 65535)) % 4294967296) (((((a0 / 65536) + (a1 / 65536)) % 4294967296) + ((((a2) % 4294967296) * (Go.bits .and .u32 a0 65535)) % 4294967296)) % 4294967296) t102 _ A4.out).mono ?_); rintro e w' ⟨rfl, ⟨nd, rfl⟩⟩; refine ⟨_, rfl, ?_⟩))
  go_ret
  exact ⟨by first | rfl | (simp; done) | (simp [*]; done), by repeat (first | exact Drawn0.refl _ | apply Drawn0.step)⟩

end Go.Proofs.Ytaeobiilihklhaa.F

-- RollE
namespace Go.Proofs.Ytaeobiilihklhaa.F
open Go Go.RowKit Go.Proofs.YtaeobiilihklhaaW.PrintWords Go.Proofs.YtaeobiilihklhaaW.PrintLast Go.Proofs.YtaeobiilihklhaaW.PrintMore Go.Proofs.YtaeobiilihklhaaM Go.Proofs.YtaeobiilihklhaaR
set_option linter.unusedSimpArgs false
set_option linter.unusedVariables false
theorem join_f (x y size : Int) (x0 : 0 ≤ x) (x1 : x < 4294967296) (y0 : 0 ≤ y) (y1 : y < 4294967296) : roll_Join.f x y size = some (join x y size) := by
  unfold roll_Join.f
  rw [and16 x x0 x1, and16 y y0 y1, make16_f _ _ (by omega) (by omega)]
  simp only [Option.bind_some, join]
  congr 2
  · omega
  · have := mul_mod16 size (x % 65536)
    omega
theorem join_c (x y size : Int) (w : World) (x0 : 0 ≤ x) (x1 : x < 4294967296) (y0 : 0 ≤ y) (y1 : y < 4294967296) :
    Calls Try.prog 33 #[.int .u32 x, .int .u32 y, .int .i64 size] w (Tells w (Is (.int .u32 (join x y size)))) :=
  tells_is ((roll_Join.calls x y size _ w (join_f x y size x0 x1 y0 y1)).mono fun _ _ ⟨h, k⟩ => ⟨h, drawn_below k⟩)
theorem next_c (s n o i : Int) (w : World) (s0 : 0 ≤ s) (s1 : s < 4294967296) (o0 : 0 ≤ o) (o1 : o < 256) (i0 : 0 ≤ i) (i1 : i < 256) :
    Calls Try.prog 35 #[.int .u32 s, .int .i64 n, .int .u8 o, .int .u8 i] w (Tells w (Is (.int .u32 (next s n o i)))) := by
  have ha := and16 s s0 s1
  go_enter Try.func35, Try.ntmps35
  go_wp2_with fail
  refine (make16_c _ _ _ (by omega) (by omega)).mono ?_
  rintro e w' ⟨_, rfl, rfl, hg⟩
  go_wp2
  go_ret
  refine ⟨_, rfl, ?_, hg⟩
  simp only [Is]
  simp
  have := mul_mod16 n o
  unfold next
  omega
theorem w64 {x : Int} (h : -9223372036854775808 ≤ x) (k : x ≤ 9223372036854775807) : wrap64 x = x := by unfold wrap64; omega
end Go.Proofs.Ytaeobiilihklhaa.F

-- Own
namespace Go.Proofs.Ytaeobiilihklhaa.F
open Go Go.RowKit Go.Proofs.YtaeobiilihklhaaW.PrintWords Go.Proofs.YtaeobiilihklhaaW.PrintLast Go.Proofs.YtaeobiilihklhaaW.PrintMore Go.Proofs.YtaeobiilihklhaaR
theorem reads_of {A : Option Addr} {n : Nat} {l : List Int} {w : World} {k : IntKind} (h : Kd.C (Kd.int k) w A n l) : ReadsInt w k A n l :=
  Kd.reads_of_C (enc := Value.int k) (d := (0 : Int)) (h1 := fun _ => rfl) h
theorem C_of {A : Option Addr} {n : Nat} {l : List Int} {w : World} {k : IntKind} (h : ReadsInt w k A n l) : Kd.C (Kd.int k) w A n l :=
  Kd.C_of_reads (d := (0 : Int)) (h1 := fun _ => rfl) h
theorem own_head {w : World} {base : Nat} {e : TypeId} {v : Value} {k : IntKind} {l : List Int} {n : Nat} (h : w.ownsRow base e 1 v n (nums k l)) (hl : 0 < n) :
    ∃ g cap, v = .slice (some ⟨g, 0, none⟩) n cap ∧ base ≤ g ∧ g < w.heap.size ∧ n ≤ cap := by
  obtain ⟨_, ⟨_, h0⟩ | ⟨g, cap, cur, rfl, hb, hg, hc, _⟩⟩ := h
  · omega
  · exact ⟨g, cap, rfl, hb, (Array.getElem?_eq_some_iff.1 hg).1, hc⟩
/-- a row of the call's own may be read like one that came in -/
theorem own_C {w : World} {base n : Nat} {e : TypeId} {k : IntKind} {v : Value} {l : List Int} (h : w.ownsRow base e 1 v n (nums k l)) : ∃ A c, v = .slice A n c ∧ l.length = n ∧ n ≤ c ∧ Kd.C (Kd.int k) w A n l := by
  have hl : l.length = n := by have := h.1; simp [nums] at this; exact this
  obtain ⟨A, c, rfl, hr⟩ := own_reads h
  refine ⟨A, c, rfl, hl, own_le h, C_of hr⟩
theorem own_atN {W : World} {base g n cap : Nat} {e : TypeId} {k : IntKind} {xs : List Int} (h : W.ownsRow base e 1 (.slice (some ⟨g, 0, none⟩) n cap) n (nums k xs)) (i : Nat) (hi : i < n) :
    W.cell? ⟨g, i, none⟩ = some (.int k (xs.getD i 0)) ∧ W.frozen? ⟨g, i, none⟩ = false := by
  have := own_at h (i : Int) (by omega) (by omega)
  simpa [rd] using this
theorem own_storeN {W : World} {base g n cap : Nat} {e : TypeId} {k : IntKind} {xs : List Int} (h : W.ownsRow base e 1 (.slice (some ⟨g, 0, none⟩) n cap) n (nums k xs)) (i : Nat) (x : Int) :
    (W.setCell ⟨g, i, none⟩ (.int k x)).ownsRow base e 1 (.slice (some ⟨g, 0, none⟩) n cap) n (nums k (xs.set i x)) := by
  have := (own_store h (i : Int) x).1
  simpa using this
end Go.Proofs.Ytaeobiilihklhaa.F

-- Upd
namespace Go.Proofs.Ytaeobiilihklhaa.F
open Go Go.RowKit Go.Proofs.YtaeobiilihklhaaW.PrintWords Go.Proofs.YtaeobiilihklhaaW.PrintLast Go.Proofs.YtaeobiilihklhaaW.PrintMore Go.Proofs.YtaeobiilihklhaaR
set_option linter.unusedSimpArgs false
set_option linter.unusedVariables false
/-- all but the blocks of S stays -/
structure Upd (S : Nat → Prop) (w w' : World) : Prop where
  os : w'.os = w.os
  tape : w'.tape = w.tape
  output : w'.output = w.output
  size : w.heap.size ≤ w'.heap.size
  block : ∀ k, k < w.heap.size → ¬ S k → w'.heap[k]? = w.heap[k]?
theorem Upd.refl (S : Nat → Prop) (w : World) : Upd S w w := ⟨rfl, rfl, rfl, Nat.le_refl _, fun _ _ _ => rfl⟩
theorem Upd.of_grew {S : Nat → Prop} {w w' : World} (h : Grew w w') : Upd S w w' := ⟨h.os, h.tape, h.output, h.size, fun k hk _ => h.block k hk⟩
theorem Upd.then_ {S S2 : Nat → Prop} {a b c : World} (h : Upd S a b) (k : Upd S2 b c) (hs : ∀ i, i < a.heap.size → S2 i → S i) : Upd S a c :=
  ⟨k.os.trans h.os, k.tape.trans h.tape, k.output.trans h.output, Nat.le_trans h.size k.size, fun i hi hn => (k.block i (Nat.lt_of_lt_of_le hi h.size) (fun h2 => hn (hs i hi h2))).trans (h.block i hi hn)⟩
theorem Upd.trans {S : Nat → Prop} {a b c : World} (h : Upd S a b) (k : Upd S b c) : Upd S a c := h.then_ k fun _ _ h => h
theorem Upd.mono {S S2 : Nat → Prop} {a b : World} (h : Upd S a b) (hs : ∀ i, i < a.heap.size → S i → S2 i) : Upd S2 a b :=
  ⟨h.os, h.tape, h.output, h.size, fun i hi hn => h.block i hi (fun h2 => hn (hs i hi h2))⟩
theorem Upd.grew {S : Nat → Prop} {a b : World} (h : Upd S a b) (hs : ∀ i, i < a.heap.size → ¬ S i) : Grew a b := ⟨h.os, h.tape, h.output, h.size, fun i hi => h.block i hi (hs i hi)⟩
theorem Upd.below {S : Nat → Prop} {a b : World} {B : Nat} (h : Upd S a b) (hB : B ≤ a.heap.size) (hs : ∀ i, S i → B ≤ i) : Below B a b :=
  ⟨h.os, h.tape, h.output, h.size, fun i hi => h.block i (Nat.lt_of_lt_of_le hi hB) (fun h2 => by have := hs i h2; omega)⟩
theorem Upd.set {S : Nat → Prop} {a b : World} (h : Upd S a b) {p : Addr} (hp : S p.block ∨ a.heap.size ≤ p.block) (u : Value) : Upd S a (b.setCell p u) :=
  ⟨h.os, h.tape, h.output, by simp [World.setCell]; exact h.size, fun i hi hn => by
    rw [Below.heap_setCell b p u i (fun e => by subst e; rcases hp with hp | hp; exact hn hp; omega)]
    exact h.block i hi hn⟩
theorem Upd.kept {S : Nat → Prop} {a b : World} (h : Upd S a b) : Kept a b S := ⟨h.size, fun i hi hn => h.block i hi hn⟩
theorem Upd.blk {S : Nat → Prop} {a b : World} {g : Nat} {o : Obj} (h : Upd S a b) (hb : a.heap[g]? = some o) (hn : ¬ S g) : b.heap[g]? = some o := (h.block g (blk_lt hb) hn).trans hb
theorem Upd.cell {S : Nat → Prop} {a b : World} {p : Addr} {v : Value} (h : Upd S a b) (hb : a.cell? p = some v) (hn : ¬ S p.block) : b.cell? p = some v := cell_kept hb h.kept hn
theorem Upd.grown {S : Nat → Prop} {a b c : World} {row : Option Nat} (h : Upd S a b) (hg : b.grownBy c row) (hr : ∀ k, row = some k → S k ∨ a.heap.size ≤ k) : Upd S a c :=
  ⟨hg.os.trans h.os, hg.tape.trans h.tape, hg.output.trans h.output, Nat.le_trans h.size hg.size, fun i hi hn => (hg.block i (Nat.lt_of_lt_of_le hi h.size) (fun e => by rcases hr i e.symm with h2 | h2; exact hn h2; omega)).trans (h.block i hi hn)⟩
theorem Upd.own {S : Nat → Prop} {w w1 : World} {base : Nat} {e : TypeId} {size n : Nat} {v : Value} {xs : List Value} (hu : Upd S w w1) (h : w.ownsRow base e size v n xs) (hn : ∀ k, v.ownBlock = some k → ¬ S k) : w1.ownsRow base e size v n xs :=
  own_move h fun k hk => hu.block k (own_lt h k hk) (hn k hk)
/-- what a call comes to: what it returns, and which blocks it may change -/
def Does (S : Nat → Prop) (w : World) (V : World → Value → Prop) (e : Ending) (w' : World) : Prop := ∃ v, e = .returned v ∧ V w' v ∧ Upd S w w'
theorem does_of_tells {S : Nat → Prop} {P : Program} {f : FuncId} {args : Array Value} {w : World} {V : World → Value → Prop} (h : Calls P f args w (Tells w V)) : Calls P f args w (Does S w V) :=
  h.mono fun _ _ ⟨v, he, hv, hg⟩ => ⟨v, he, hv, Upd.of_grew hg⟩
theorem tells_of_does {S : Nat → Prop} {P : Program} {f : FuncId} {args : Array Value} {w : World} {V : World → Value → Prop} (h : Calls P f args w (Does S w V)) (hs : ∀ i, i < w.heap.size → ¬ S i) : Calls P f args w (Tells w V) :=
  h.mono fun _ _ ⟨v, he, hv, hg⟩ => ⟨v, he, hv, hg.grew hs⟩
/-- a block known whole: its cells -/
def Blk (w : World) (g : Nat) (t : TypeId) (cs : List Value) : Prop := w.heap[g]? = some (.cells cs.toArray t (0, 0))
theorem Blk.lt {w : World} {g : Nat} {t : TypeId} {cs : List Value} (h : Blk w g t cs) : g < w.heap.size := blk_lt h
theorem Blk.at_ {w : World} {g : Nat} {t : TypeId} {cs : List Value} (h : Blk w g t cs) (i : Nat) : w.cell? ⟨g, i, none⟩ = cs[i]? := by
  rw [blk_cell h]; simp
theorem Blk.fz {w : World} {g : Nat} {t : TypeId} {cs : List Value} (h : Blk w g t cs) (i : Nat) : w.frozen? ⟨g, i, none⟩ = false := blk_frozen h i
theorem Blk.set {w : World} {g : Nat} {t : TypeId} {cs : List Value} (h : Blk w g t cs) (i : Nat) (u : Value) : Blk (w.setCell ⟨g, i, none⟩ u) g t (cs.set i u) := by
  have := blk_set h i u
  unfold Blk
  rw [this]; simp
theorem Blk.far {w : World} {g : Nat} {t : TypeId} {cs : List Value} (h : Blk w g t cs) {p : Addr} (hp : g ≠ p.block) (u : Value) : Blk (w.setCell p u) g t cs := blk_far h hp u
theorem Blk.upd {S : Nat → Prop} {w w' : World} {g : Nat} {t : TypeId} {cs : List Value} (h : Blk w g t cs) (hu : Upd S w w') (hn : ¬ S g) : Blk w' g t cs := hu.blk h hn
theorem Blk.grew {w w' : World} {g : Nat} {t : TypeId} {cs : List Value} (h : Blk w g t cs) (hu : Grew w w') : Blk w' g t cs := blk_below h hu
theorem Blk.new (w : World) (t : TypeId) (cs : List Value) : Blk (w.alloc (.cells cs.toArray t)) w.heap.size t cs := blk_new w _
/-- a block of numbers reads as a row -/
theorem Blk.own {w : World} {base g : Nat} {t : TypeId} {k : IntKind} {xs : List Int} {n : Nat} (h : Blk w g t (nums k xs)) (hb : base ≤ g) (hn : n ≤ xs.length) (hm : xs.length ≤ 9223372036854775807) : w.ownsRow base t 1 (.slice (some ⟨g, 0, none⟩) n xs.length) n (nums k (xs.take n)) := by
  refine ⟨by simp [nums, Nat.min_eq_left hn], .inr ⟨g, xs.length, (nums k xs).toArray, rfl, hb, h, hn, by simpa [maxLen] using hm, by simp [nums], ?_⟩⟩
  simp [nums, List.map_take]
theorem Blk.reads {w : World} {g : Nat} {t : TypeId} {k : IntKind} {xs : List Int} (h : Blk w g t (nums k xs)) (hm : xs.length ≤ 9223372036854775807) : ReadsInt w k (some ⟨g, 0, none⟩) xs.length xs :=
  ⟨rfl, hm, fun _ => ⟨_, rfl, fun i hi => by rw [add_plain, h.at_]; simp [nums, hi, List.getD_eq_getElem?_getD]⟩⟩
theorem Blk.C {w : World} {g : Nat} {t : TypeId} {k : IntKind} {xs : List Int} (h : Blk w g t (nums k xs)) (hm : xs.length ≤ 9223372036854775807) : Kd.C (Kd.int k) w (some ⟨g, 0, none⟩) xs.length xs := C_of (h.reads hm)
/-- what an append leaves: a row of one's own, in the block it had or in a new one -/
def Appended {α : Type} (enc : α → Value) (base : Nat) (e : TypeId) (v : Value) (xs : List α) (W : World) (v1 : Value) (w1 : World) : Prop :=
  w1.ownsRow base e 1 v1 xs.length (encs enc xs) ∧ W.grownBy w1 v.ownBlock ∧ (v1.ownBlock = v.ownBlock ∨ v1.ownBlock = some W.heap.size)
theorem app_row {P : Program} {α : Type} (enc : α → Value) (d : α) (h1 : ∀ x : α, (enc x).oneCell' = true) (W : World) (base : Nat) (t e ty : TypeId) (z : Value) (bytes : Nat)
    (ht : P.underlying t = some (.slice e)) (hinfo : (P.info? e).map (fun i => (i.zero, i.size, i.bytes)) = some (some z, 1, bytes)) (hz : z.cells.size = 1) (hb0 : 0 < bytes)
    (v : Value) (xs ys : List α) (A : Option Addr) (m c : Nat) (HO : W.ownsRow base e 1 v xs.length (encs enc xs)) (HR : ReadsOf enc d W A m ys) (hbase : base ≤ W.heap.size) (hl : (xs.length + m) * bytes ≤ 140737488355328) :
    ∃ v1 w1, (Builtin.append_ #[t, t] ty #[v, .slice A m c]).run P W = .ok v1 w1 ∧ Appended enc base e v (xs ++ ys) W v1 w1 := by
  obtain ⟨i0, hi, hzz⟩ := Option.map_eq_some_iff.1 hinfo
  simp only [Prod.mk.injEq] at hzz
  obtain ⟨hz0, hz1, hz2⟩ := hzz
  have hm : ys.length = m := HR.1
  have hlen : xs.length + m ≤ 140737488355328 := Nat.le_trans (Nat.le_mul_of_pos_right _ hb0) hl
  rcases Nat.eq_zero_or_pos m with h0 | hpos
  · subst h0
    obtain rfl : ys = [] := List.eq_nil_of_length_eq_zero hm
    refine ⟨v, W, ?_, by simpa using HO, World.grownBy.refl W _, .inl rfl⟩
    have hld : ∀ ad : Addr, (loadCells ad 0).run P W = .ok #[] W := fun ad => by simpa using run_loadCells_list (P := P) W ad [] (by simp)
    rcases HO.2 with ⟨rfl, hn⟩ | ⟨g, cap, cur, rfl, _, _, hnc, _⟩
    · cases A <;> simp [Builtin.append_, run_underlying ht, sizeOf, typeInfo, hi, Builtin.lenOf, Builtin.firstCells, hld]
    · cases A <;> simp [Builtin.append_, run_underlying ht, sizeOf, typeInfo, hi, Builtin.lenOf, Builtin.firstCells, hnc, storeCells, hld]
  · obtain ⟨ad, rfl, hc⟩ := HR.2.2 hpos
    have hcells : ∀ j u, (encs enc ys)[j]? = some u → W.cell? (ad.add j) = some u := by
      intro j u hu
      have hj : j < ys.length := by
        rcases Nat.lt_or_ge j ys.length with h | h
        · exact h
        · simp [encs, List.getElem?_eq_none h] at hu
      rw [encs_get (d := d) ys j hj] at hu
      rw [← hu]
      exact hc j (by omega)
    obtain ⟨v1, w1, hr, h2, h3, _, h5⟩ := run_append_own_at (P := P) W base t ty e i0 z 1 bytes ht hi hz0 hz1 hz2 hz (by omega) v xs.length (encs enc xs) HO ad m c (encs enc ys) (by simp [encs, hm]) hcells
      (by intro u hu; simp only [encs, List.mem_map] at hu; obtain ⟨q, _, rfl⟩ := hu; exact h1 q) (by simp only [maxLen]; omega) hl hbase
    exact ⟨v1, w1, hr, by simpa [encs, hm] using h2, h3, h5⟩
theorem app_num {P : Program} {k : IntKind} (W : World) (base : Nat) (t e ty : TypeId) (bytes : Nat)
    (ht : P.underlying t = some (.slice e)) (hinfo : (P.info? e).map (fun i => (i.zero, i.size, i.bytes)) = some (some (.int k 0), 1, bytes)) (hb0 : 0 < bytes)
    (v : Value) (xs ys : List Int) (A : Option Addr) (m c : Nat) (HO : W.ownsRow base e 1 v xs.length (nums k xs)) (HR : ReadsInt W k A m ys) (hbase : base ≤ W.heap.size) (hl : (xs.length + m) * bytes ≤ 140737488355328) :
    ∃ v1 w1, (Builtin.append_ #[t, t] ty #[v, .slice A m c]).run P W = .ok v1 w1 ∧ Appended (Value.int k) base e v (xs ++ ys) W v1 w1 :=
  app_row (Value.int k) 0 (fun _ => rfl) W base t e ty (.int k 0) bytes ht hinfo rfl hb0 v xs ys A m c HO HR hbase hl
theorem Appended.upd {α : Type} {enc : α → Value} {base : Nat} {e : TypeId} {v v1 : Value} {xs : List α} {W w1 : World} (h : Appended enc base e v xs W v1 w1) : Upd (fun k => v.ownBlock = some k) W w1 :=
  (Upd.refl _ W).grown h.2.1 fun k hk => .inl hk
/-- a row of one's own, cut short -/
theorem own_take {w : World} {base n m cap size : Nat} {e : TypeId} {A : Option Addr} {xs : List Value} (h : w.ownsRow base e size (.slice A n cap) n xs) (hm : m ≤ n) : w.ownsRow base e size (.slice A m cap) m (xs.take (m * size)) := by
  obtain ⟨hl, h⟩ := h
  refine ⟨by rw [List.length_take, hl]; exact Nat.min_eq_left (Nat.mul_le_mul_right _ hm), ?_⟩
  rcases h with ⟨hv, hn⟩ | ⟨g, cap', cur, hv, hb, hh, hnc, hcm, hcs, htake⟩
  · injection hv with h1 h2 h3
    subst h1 h3
    obtain rfl : m = 0 := by omega
    exact .inl ⟨rfl, rfl⟩
  · injection hv with h1 h2 h3
    subst h1 h3
    refine .inr ⟨g, cap, cur, rfl, hb, hh, by omega, hcm, hcs, ?_⟩
    rw [← htake, List.take_take, Nat.min_eq_left (Nat.mul_le_mul_right _ hm)]
/-- a slice of one element in a block of its own, which is not the row that is written -/
def One (e : TypeId) (x : Value) (vb : Value) : World → Value → Prop := fun w v => ∃ g1, v = .slice (some ⟨g1, 0, none⟩) 1 1 ∧ Blk w g1 e [x] ∧ some g1 ≠ vb.ownBlock
theorem One.stableB (e : TypeId) (x vb : Value) : ∀ w w' v, Grew w w' ∨ w.grownBy w' vb.ownBlock → One e x vb w v → One e x vb w' v :=
  fun _ _ _ hr ⟨g1, h1, h2, h3⟩ => ⟨g1, h1, hr.elim h2.grew (fun hg => blk_grown h2 hg h3), h3⟩
theorem One.stable (e : TypeId) (x vb : Value) : ∀ w w' v, Grew w w' → One e x vb w v → One e x vb w' v := fun w w' v hg => One.stableB e x vb w w' v (.inl hg)
theorem One.new {w : World} {e : TypeId} {x vb : Value} (h : ∀ k, vb.ownBlock = some k → k < w.heap.size) : One e x vb (w.alloc (.cells #[x] e)) (.slice (some ⟨w.heap.size, 0, none⟩) 1 1) :=
  ⟨_, rfl, Blk.new w e [x], fun he => by have := h _ he.symm; omega⟩
/-- the row behind an append -/
def AppV (base : Nat) (e : TypeId) (cs : List Value) (n : Nat) (vb : Value) (N : Nat) : World → Value → Prop := fun w v => w.ownsRow base e 1 v n cs ∧ (v.ownBlock = vb.ownBlock ∨ ∃ k, v.ownBlock = some k ∧ N ≤ k)
theorem Blk.reads_of {w : World} {g : Nat} {e : TypeId} {α : Type} {enc : α → Value} {d : α} {xs : List α} (h : Blk w g e (encs enc xs)) (hm : xs.length ≤ 9223372036854775807) : ReadsOf enc d w (some ⟨g, 0, none⟩) xs.length xs :=
  ⟨rfl, hm, fun _ => ⟨_, rfl, fun i hi => by rw [add_plain, h.at_]; exact encs_get xs i hi⟩⟩
theorem eval_tmp {a : Act} {t : Tmp} {v : Value} (h : a.tmps[t]?.getD undef = v) : a.eval (.tmp t) = v := by simpa [Act.eval] using h
/-- append as one operation, by the equation of its run -/
theorem wp_app {P : Program} {o : Oper} {a : Act} {w : World} {K : Act → World → Prop} {Q : Exit → Act → World → Prop} (s x : Operand) (t : TypeId)
    (ho : o.op = .call { callee := .builtin .append, args := #[s, x], argTypes := #[t, t] }) {v y : Value} (hs : a.eval s = v) (hx : a.eval x = y) {v1 : Value} {w1 : World}
    (hr : (Builtin.append_ #[t, t] o.type #[v, y]).run P w = .ok v1 w1) (h : K (a.put o.dst v1) w1) : Oper.wp P o a w K Q := by
  unfold Oper.wp execOp
  simp only [ho, resolve, invoke, builtin, Sem.run_bind, Sem.run_pure, Result.andThen_ok, List.map_toArray, List.map_cons, List.map_nil, hs, hx, hr]
  exact h
theorem wpList_app {P : Program} {ops : Array Oper} {rest : List Oper} {o : Oper} {a : Act} {w : World} {Q : Exit → Act → World → Prop} (hgd : o.guard = none) (s x : Operand) (t : TypeId)
    (ho : o.op = .call { callee := .builtin .append, args := #[s, x], argTypes := #[t, t] }) {v y : Value} (hs : a.eval s = v) (hx : a.eval x = y) {v1 : Value} {w1 : World}
    (hr : (Builtin.append_ #[t, t] o.type #[v, y]).run P w = .ok v1 w1) (h : wpList P ops Q rest (a.put o.dst v1) w1) : wpList P ops Q (o :: rest) a w :=
  wpList_plain hgd fun K hK => wp_app s x t ho hs hx hr (hK _ _ h)
theorem Upd.of_grown {w w' : World} {row : Option Nat} (h : w.grownBy w' row) : Upd (fun k => row = some k) w w' := (Upd.refl _ w).grown h fun k hk => .inl hk
theorem Upd.of_alloc_grown {w wn : World} {o : Obj} {row : Option Nat} (h : (w.alloc o).grownBy wn row) : Upd (fun k => row = some k) w wn :=
  (Upd.of_grew (Grew.alloc w o)).then_ (Upd.of_grown h) fun _ _ h => h
theorem add_block (a : Addr) (j : Nat) : (a.add j).block = a.block := by unfold Addr.add; split <;> rfl
/-- a row that is read stays, if what changes lies elsewhere -/
theorem C_upd {S : Nat → Prop} {w w' : World} {k : IntKind} {A : Option Addr} {n : Nat} {xs : List Int} (h : Kd.C (Kd.int k) w A n xs) (hu : Upd S w w') (hA : ∀ ad, A = some ad → ¬ S ad.block) : Kd.C (Kd.int k) w' A n xs := by
  obtain ⟨h1, h2, h3⟩ := reads_of h
  refine C_of ⟨h1, h2, fun hp => ?_⟩
  obtain ⟨ad, rfl, hc⟩ := h3 hp
  exact ⟨ad, rfl, fun j hj => hu.cell (hc j hj) (by rw [add_block]; exact hA ad rfl)⟩
end Go.Proofs.Ytaeobiilihklhaa.F

-- WinM
namespace Go.Proofs.YtaeobiilihklhaaM
open Go Go.RowKit
/-- the last so many -/
def lastL (n : Nat) (s : List Int) : List Int := s.drop (s.length - n)
theorem lastL_len (n : Nat) (s : List Int) : (lastL n s).length ≤ n := by simp [lastL]; omega
theorem lastL_short {n : Nat} {s : List Int} (h : s.length ≤ n) : lastL n s = s := by simp [lastL, Nat.sub_eq_zero_of_le h]
theorem lastL_full {n : Nat} {s : List Int} (c : Int) (h : s.length = n) (hn : 0 < n) : lastL n (s ++ [c]) = s.drop 1 ++ [c] := by
  unfold lastL
  rw [List.length_append, List.length_singleton, show s.length + 1 - n = 1 from by omega, List.drop_append_of_le_length (by omega)]
theorem lastL_last (n : Nat) (s m : List Int) : lastL n (lastL n s ++ m) = lastL n (s ++ m) := by
  unfold lastL
  simp only [List.length_append, List.length_drop, List.drop_append, List.drop_drop]
  congr 1
  · congr 1; omega
  · congr 1; omega
theorem ring_mod {a i n : Nat} (ha : a < n) (hi : i ≤ n) : (a + i) % n = if a + i < n then a + i else a + i - n := by
  split
  · exact Nat.mod_eq_of_lt ‹_›
  · rw [Nat.mod_eq_sub_mod (by omega), Nat.mod_eq_of_lt (by omega)]
/-- the ring b, from place a on, has the bytes s -/
structure Ring (b : List Int) (a : Nat) (s : List Int) : Prop where
  len : s.length ≤ b.length
  lt : a < b.length
  at_ : ∀ i, i < s.length → b.getD ((a + i) % b.length) 0 = s.getD i 0
theorem Ring.nil {b : List Int} (h : 0 < b.length) : Ring b 0 [] := ⟨by simp, h, fun i hi => by simp at hi⟩
theorem Ring.room {b : List Int} {a : Nat} {s : List Int} (h : Ring b a s) (hr : s.length < b.length) (c : Int) : Ring (b.set ((a + s.length) % b.length) c) a (s ++ [c]) := by
  obtain ⟨h1, h2, h3⟩ := h
  refine ⟨by simp; omega, by simpa using h2, fun i hi => ?_⟩
  simp only [List.length_set]
  have hlt : (a + s.length) % b.length < b.length := Nat.mod_lt _ (by omega)
  rcases Nat.lt_or_ge i s.length with hi' | hi'
  · have := h3 i hi'
    have hne : (a + s.length) % b.length ≠ (a + i) % b.length := by
      rw [ring_mod h2 (by omega), ring_mod h2 (by omega)]
      split <;> split <;> omega
    simp only [List.getD_eq_getElem?_getD, List.getElem?_set_ne hne, List.getElem?_append_left hi'] at this ⊢
    exact this
  · obtain rfl : i = s.length := by simp at hi; omega
    simp [List.getD_eq_getElem?_getD, List.getElem?_set_self hlt]
theorem Ring.full {b : List Int} {a : Nat} {s : List Int} (h : Ring b a s) (hr : s.length = b.length) (c : Int) : Ring (b.set a c) ((a + 1) % b.length) (s.drop 1 ++ [c]) := by
  obtain ⟨h1, h2, h3⟩ := h
  have hm : (a + 1) % b.length < b.length := Nat.mod_lt _ (by omega)
  refine ⟨by simp; omega, by simpa using hm, fun i hi => ?_⟩
  simp only [List.length_set]
  simp only [List.length_append, List.length_drop, List.length_singleton] at hi
  have em : ((a + 1) % b.length + i) % b.length = (a + (i + 1)) % b.length := by
    rw [Nat.mod_add_mod]; congr 1; omega
  rw [em]
  rcases Nat.lt_or_ge (i + 1) s.length with hi' | hi'
  · have := h3 (i + 1) hi'
    have hne : a ≠ (a + (i + 1)) % b.length := by
      rw [ring_mod h2 (by omega)]
      split <;> omega
    simp only [List.getD_eq_getElem?_getD, List.getElem?_set_ne hne] at this ⊢
    rw [List.getElem?_append_left (by simp; omega), this]
    simp
  · obtain rfl : i = s.length - 1 := by omega
    have e : (a + (s.length - 1 + 1)) % b.length = a := by
      rw [ring_mod h2 (by omega)]
      split <;> omega
    rw [e]
    simp [List.getD_eq_getElem?_getD, List.getElem?_set_self h2]
theorem Ring.get0 {b : List Int} {a : Nat} {s : List Int} (h : Ring b a s) (hs : 0 < s.length) : b.getD a 0 = s.getD 0 0 := by
  have := h.at_ 0 hs
  rwa [Nat.add_zero, Nat.mod_eq_of_lt h.lt] at this
/-- the two ends of the ring, one behind the other -/
theorem Ring.cut {b : List Int} {a : Nat} {s : List Int} (h : Ring b a s) : (b.take (min (a + s.length) b.length)).drop a ++ b.take (s.length - (min (a + s.length) b.length - a)) = s := by
  obtain ⟨h1, h2, h3⟩ := h
  refine List.ext_getElem ?_ fun i hi1 hi2 => ?_
  · simp; omega
  · have := h3 i hi2
    rw [ring_mod h2 (by omega)] at this
    simp only [List.getD_eq_getElem?_getD, List.getElem?_eq_getElem hi2] at this
    rw [List.getElem_append]
    split
    · rename_i hl
      simp only [List.length_drop, List.length_take] at hl
      rw [if_pos (by omega)] at this
      simp only [List.getElem_drop, List.getElem_take]
      rw [List.getElem?_eq_getElem (by omega)] at this
      simpa using this
    · rename_i hl
      simp only [List.length_drop, List.length_take] at hl
      rw [if_neg (by omega)] at this
      simp only [List.length_drop, List.length_take, List.getElem_take]
      rw [List.getElem?_eq_getElem (by omega)] at this
      simp only [Option.getD_some] at this
      rw [← this]
      congr 1
      omega
theorem weak_put (s : List Int) (c : Int) : join (weak s) (c % 65536 + 65536 * (c % 65536)) 1 = weak (s ++ [c]) := by
  have e : weak [c] = c % 65536 + 65536 * (c % 65536) := by simp [weak, AB, st, weakOf]
  rw [← e, ← join_weak]; rfl
theorem weak_roll (s : List Int) (c : Int) (h : 0 < s.length) : next (weak s) s.length (s.getD 0 0) c = weak (s.drop 1 ++ [c]) := by
  cases s with
  | nil => simp at h
  | cons o l => simpa using next_weak o c l
end Go.Proofs.YtaeobiilihklhaaM

-- Win
namespace Go.Proofs.Ytaeobiilihklhaa.F
open Go Go.RowKit Go.Proofs.YtaeobiilihklhaaW.PrintWords Go.Proofs.YtaeobiilihklhaaW.PrintLast Go.Proofs.YtaeobiilihklhaaW.PrintMore Go.Proofs.YtaeobiilihklhaaM Go.Proofs.YtaeobiilihklhaaR
attribute [local go_sem] max2_int min2_int max_two min_two
set_option linter.unusedSimpArgs false
set_option linter.unusedVariables false
set_option maxRecDepth 100000
/-- a window's two blocks, and what it has -/
structure Win (g gb size : Nat) (s : List Int) (a : Nat) (b : List Int) (w : World) : Prop where
  ne : g ≠ gb
  cells : Blk w g 67 [.slice (some ⟨gb, 0, none⟩) size size, .int .i64 a, .int .i64 s.length, .int .u32 (weak s)]
  row : Blk w gb 5 (nums .u8 b)
  len : b.length = size
  ring : Ring b a s
  small : size ≤ 65536
  bytes : ∀ x ∈ s, 0 ≤ x ∧ x < 256
def WinB (g gb size : Nat) (s : List Int) (w : World) : Prop := ∃ a b, Win g gb size s a b w
theorem Win.upd {S : Nat → Prop} {g gb size a : Nat} {s b : List Int} {w w' : World} (h : Win g gb size s a b w) (hu : Upd S w w') (h1 : ¬ S g) (h2 : ¬ S gb) : Win g gb size s a b w' :=
  ⟨h.ne, h.cells.upd hu h1, h.row.upd hu h2, h.len, h.ring, h.small, h.bytes⟩
theorem WinB.upd {S : Nat → Prop} {g gb size : Nat} {s : List Int} {w w' : World} (h : WinB g gb size s w) (hu : Upd S w w') (h1 : ¬ S g) (h2 : ¬ S gb) : WinB g gb size s w' := by
  obtain ⟨a, b, h⟩ := h
  exact ⟨a, b, h.upd hu h1 h2⟩
theorem WinB.grew {g gb size : Nat} {s : List Int} {w w' : World} (h : WinB g gb size s w) (hu : Grew w w') : WinB g gb size s w' := h.upd (Upd.of_grew (S := fun _ => False) hu) id id
theorem WinB.bytes {g gb size : Nat} {s : List Int} {w : World} (h : WinB g gb size s w) : ∀ x ∈ s, 0 ≤ x ∧ x < 256 := by
  obtain ⟨a, b, h⟩ := h
  exact h.bytes
theorem WinB.len {g gb size : Nat} {s : List Int} {w : World} (h : WinB g gb size s w) : s.length ≤ size := by
  obtain ⟨a, b, h⟩ := h
  have := h.ring.len
  have := h.len
  omega
/-- which blocks a window may change -/
def WS (g gb : Nat) : Nat → Prop := fun k => k = g ∨ k = gb
theorem clear_c (g gb size : Nat) (s : List Int) (w : World) (h : WinB g gb size s w) : Calls Try.prog 29 #[.pointer (some ⟨g, 0, none⟩)] w (Does (WS g gb) w (fun w' v => v = .tuple #[] ∧ WinB g gb size [] w')) := by
  obtain ⟨a, b, h⟩ := h
  have c0 := h.cells.at_ 0
  have c1 := h.cells.at_ 1
  have c2 := h.cells.at_ 2
  have c3 := h.cells.at_ 3
  have z1 := h.cells.fz 1
  have z2 := h.cells.fz 2
  have z3 := h.cells.fz 3
  simp at c0 c1 c2 c3
  go_enter Try.func29, Try.ntmps29
  go_wp2
  go_end0
  have hb := ((h.cells.set 1 (.int .i64 0)).set 2 (.int .i64 0)).set 3 (.int .u32 0)
  have hr := ((h.row.far (p := ⟨g, 1, none⟩) h.ne.symm (.int .i64 0)).far (p := ⟨g, 2, none⟩) h.ne.symm (.int .i64 0)).far (p := ⟨g, 3, none⟩) h.ne.symm (.int .u32 0)
  refine ⟨_, rfl, ⟨rfl, 0, b, h.ne, hb, hr, h.len, Ring.nil (by have := h.ring.lt; omega), h.small, by simp⟩, ?_⟩
  exact (((Upd.refl _ w).set (p := ⟨g, 1, none⟩) (.inl (.inl rfl)) _).set (p := ⟨g, 2, none⟩) (.inl (.inl rfl)) _).set (p := ⟨g, 3, none⟩) (.inl (.inl rfl)) _
/-- a new window -/
def NewWin (B size : Nat) : World → Value → Prop := fun w' v => ∃ g gb, v = .tuple #[.pointer (some ⟨g, 0, none⟩), .int .i64 0] ∧ B ≤ g ∧ B ≤ gb ∧ g ≠ gb ∧ WinB g gb size [] w'
theorem new_c (size : Nat) (w : World) (h1 : 1 ≤ size) (h2 : size ≤ 65536) : Calls Try.prog 24 #[.int .i64 size] w (Tells w (NewWin w.heap.size size)) := by
  have hmk := print_make (P := Try.prog) 42 5 .u8 1 Try.underlying42 info5 (by decide) size (by omega)
  have d1 : ¬ ((size : Int) < 1) := by omega
  have d2 : ¬ ((65536 : Int) < size) := by omega
  go_enter Try.func24, Try.ntmps24
  go_wp2
  go_ret2
  refine ⟨_, rfl, ⟨w.heap.size + 1, w.heap.size, rfl, by omega, by omega, by omega, 0, List.replicate size 0, by omega, ?_, ?_, by simp, Ring.nil (by simp; omega), h2, by simp⟩, (Grew.alloc _ _).trans (Grew.alloc _ _)⟩
  · have := Blk.new (w.alloc (Obj.cells (madeCells #[Value.int IntKind.u8 0] size) 5)) 67 [.slice (some ⟨w.heap.size, 0, none⟩) size size, .int .i64 0, .int .i64 0, .int .u32 0]
    rw [show weak [] = 0 from rfl]
    simpa using this
  · have := Blk.new w 5 (nums .u8 (List.replicate size 0))
    have e : (nums .u8 (List.replicate size 0)).toArray = madeCells #[Value.int IntKind.u8 0] size := by
      apply Array.ext'
      refine List.ext_getElem (by simp [nums, madeCells]) fun i h1 h2 => ?_
      simp [nums, madeCells, Nat.mod_one]
    rw [e] at this
    exact blk_alloc this _
theorem new_no (size : Int) (w : World) (h : size < 1 ∨ 65536 < size) : Calls Try.prog 24 #[.int .i64 size] w (Tells w (Is (.tuple #[.pointer none, .int .i64 1]))) := by
  rcases h with h | h
  · go_enter Try.func24, Try.ntmps24
    go_wp2
    go_ret2
    exact ⟨_, rfl, rfl, Grew.refl _⟩
  · have d1 : ¬ (size < 1) := by omega
    go_enter Try.func24, Try.ntmps24
    go_wp2
    go_ret2
    exact ⟨_, rfl, rfl, Grew.refl _⟩
theorem wsum_c (g gb size : Nat) (s : List Int) (w : World) (h : WinB g gb size s w) : Calls Try.prog 27 #[.pointer (some ⟨g, 0, none⟩)] w (Tells w (Is (.tuple #[.int .u32 (weak s), .bool ((s.length : Int) == size)]))) := by
  obtain ⟨a, b, h⟩ := h
  have C0 := Lib.hid (h.cells.at_ 0)
  have C2 := Lib.hid (h.cells.at_ 2)
  have C3 := Lib.hid (h.cells.at_ 3)
  go_enter Try.func27, Try.ntmps27
  go_wp2
  apply region_grew [Is _, Is _, Is _, Is _, Is _, Is _, Is _, Is _, Is _, Is _, Is _, Is _, Is _, Is _, Is _] [([(0, none)], none), ([(6, some 0)], none), ([(7, some 1)], none), ([(8, some 2)], none), ([(0, none)], none), ([(10, some 4)], none), ([(11, some 5)], none), ([(12, some 6)], none), ([(0, none)], none), ([(14, some 8)], none), ([(15, some 9)], none), ([(16, some 10)], none), ([(17, some 11)], none), ([(13, some 7), (18, some 12)], none), ([(9, some 3)], none)] [(2, 14), (6, 0), (7, 1), (8, 2), (9, 3), (10, 4), (11, 5), (12, 6), (13, 7), (14, 8), (15, 9), (16, 10), (17, 11), (18, 12), (19, 13)] rfl (by kernel_rfl) (by kernel_rfl) (show Stable Grew _ from ⟨Is.stable _, Is.stable _, Is.stable _, Is.stable _, Is.stable _, Is.stable _, Is.stable _, Is.stable _, Is.stable _, Is.stable _, Is.stable _, Is.stable _, Is.stable _, Is.stable _, Is.stable _, trivial⟩)
  · show OpsHold _ _ _ _ _ _ _ _ _
    refine ⟨fun a_ wx hR hD K hK => ?_, ?_⟩
    · have hG : Grew w wx := (Grew.drew _).trans hR
      simp [Deps, Dep, at_, Is] at hD
      go_simp
      exact hK _ _ (Grew.refl _) rfl
    refine ⟨fun a_ wx hR hD K hK => ?_, ?_⟩
    · have hG : Grew w wx := (Grew.drew _).trans hR
      simp [Deps, Dep, at_, Is] at hD
      go_simp
      exact hK _ _ (Grew.refl _) rfl
    refine ⟨fun a_ wx hR hD K hK => ?_, ?_⟩
    · have hG : Grew w wx := (Grew.drew _).trans hR
      simp [Deps, Dep, at_, Is] at hD
      go_simp
      exact hK _ _ (Grew.refl _) rfl
    refine ⟨fun a_ wx hR hD K hK => ?_, ?_⟩
    · have hG : Grew w wx := (Grew.drew _).trans hR
      simp [Deps, Dep, at_, Is] at hD
      have e_ := pw_cell_below hG C3.out
      go_simp
      exact hK _ _ (Grew.refl _) rfl
    refine ⟨fun a_ wx hR hD K hK => ?_, ?_⟩
    · have hG : Grew w wx := (Grew.drew _).trans hR
      simp [Deps, Dep, at_, Is] at hD
      go_simp
      exact hK _ _ (Grew.refl _) rfl
    refine ⟨fun a_ wx hR hD K hK => ?_, ?_⟩
    · have hG : Grew w wx := (Grew.drew _).trans hR
      simp [Deps, Dep, at_, Is] at hD
      go_simp
      exact hK _ _ (Grew.refl _) rfl
    refine ⟨fun a_ wx hR hD K hK => ?_, ?_⟩
    · have hG : Grew w wx := (Grew.drew _).trans hR
      simp [Deps, Dep, at_, Is] at hD
      go_simp
      exact hK _ _ (Grew.refl _) rfl
    refine ⟨fun a_ wx hR hD K hK => ?_, ?_⟩
    · have hG : Grew w wx := (Grew.drew _).trans hR
      simp [Deps, Dep, at_, Is] at hD
      have e_ := pw_cell_below hG C2.out
      go_simp
      exact hK _ _ (Grew.refl _) rfl
    refine ⟨fun a_ wx hR hD K hK => ?_, ?_⟩
    · have hG : Grew w wx := (Grew.drew _).trans hR
      simp [Deps, Dep, at_, Is] at hD
      go_simp
      exact hK _ _ (Grew.refl _) rfl
    refine ⟨fun a_ wx hR hD K hK => ?_, ?_⟩
    · have hG : Grew w wx := (Grew.drew _).trans hR
      simp [Deps, Dep, at_, Is] at hD
      go_simp
      exact hK _ _ (Grew.refl _) rfl
    refine ⟨fun a_ wx hR hD K hK => ?_, ?_⟩
    · have hG : Grew w wx := (Grew.drew _).trans hR
      simp [Deps, Dep, at_, Is] at hD
      go_simp
      exact hK _ _ (Grew.refl _) rfl
    refine ⟨fun a_ wx hR hD K hK => ?_, ?_⟩
    · have hG : Grew w wx := (Grew.drew _).trans hR
      simp [Deps, Dep, at_, Is] at hD
      have e_ := pw_cell_below hG C0.out
      go_simp
      exact hK _ _ (Grew.refl _) rfl
    refine ⟨fun a_ wx hR hD K hK => ?_, ?_⟩
    · have hG : Grew w wx := (Grew.drew _).trans hR
      simp [Deps, Dep, at_, Is] at hD
      go_simp
      exact hK _ _ (Grew.refl _) rfl
    refine ⟨fun a_ wx hR hD K hK => ?_, ?_⟩
    · have hG : Grew w wx := (Grew.drew _).trans hR
      simp [Deps, Dep, at_, Is] at hD
      obtain ⟨hd0, hd1⟩ := hD
      go_simp
      exact hK _ _ (Grew.refl _) rfl
    refine ⟨fun a_ wx hR hD K hK => ?_, ?_⟩
    · have hG : Grew w wx := (Grew.drew _).trans hR
      simp [Deps, Dep, at_, Is] at hD
      go_simp
      exact hK _ _ (Grew.refl _) rfl
    trivial
  · show EndHold _ _ _ _ _ _ _
    refine end_all (xs := [_, _, _, _, _, _, _, _, _, _, _, _, _, _, _]) ⟨rfl, rfl, rfl, rfl, rfl, rfl, rfl, rfl, rfl, rfl, rfl, rfl, rfl, rfl, rfl, trivial⟩ ?_
    rintro w1 hR1 -
    refine ⟨?_⟩
    have hG_w1 : Grew w w1 := (Grew.drew _).trans hR1
    clear hR1
    simp only [Act.put, List.setIfInBounds_toArray, List.set_cons_succ, List.set_cons_zero, dropN, putEach]
    go_wp2
    go_ret2
    exact ⟨_, rfl, rfl, hG_w1⟩
theorem put_c (g gb size : Nat) (s : List Int) (c : Int) (hc : 0 ≤ c ∧ c < 256) (w : World) (h : WinB g gb size s w) : Calls Try.prog 26 #[.pointer (some ⟨g, 0, none⟩), .int .u8 c] w (Does (WS g gb) w (fun w' v => v = .tuple #[] ∧ WinB g gb size (lastL size (s ++ [c])) w')) := by
  obtain ⟨a, b, h⟩ := h
  have C0 := Lib.hid (h.cells.at_ 0)
  have C1 := Lib.hid (h.cells.at_ 1)
  have C2 := Lib.hid (h.cells.at_ 2)
  have C3 := Lib.hid (h.cells.at_ 3)
  obtain ⟨hc0, hc1⟩ := hc
  have hl := h.ring.len
  have hlt := h.ring.lt
  have hb := h.len
  have hsm := h.small
  rw [hb] at hl hlt
  clear hb
  have H := Lib.hid h
  clear h
  by_cases hroom : s.length < size
  · have d1 : decide (s.length < size) = true := decide_eq_true hroom
    have e1 : (((a : Int) + (s.length : Int)).tmod (size : Int)) = (((a + s.length) % size : Nat) : Int) := by
      rw [show ((a : Int) + (s.length : Int)) = ((a + s.length : Nat) : Int) from by omega]; rfl
    have e2 : (a + s.length) % size < size := Nat.mod_lt _ (by omega)
    obtain ⟨p, hp⟩ : ∃ p, p = (a + s.length) % size := ⟨_, rfl⟩
    rw [← hp] at e1 e2
    have HP := Lib.hid hp
    clear hp
    have e3 : IntKind.i64.wrap ((a : Int) + (s.length : Int)) = (a : Int) + (s.length : Int) := IntWalk.i64_in _ (by omega)
    have z0 : ¬ size = 0 := by omega
    go_enter Try.func26, Try.ntmps26
    go_wp2
    apply region_grew [Is _, Is _, Is _, Is _, Is _, Is _, Is _, Is _, Is _] [([(0, none)], none), ([(6, some 0)], none), ([(7, some 1)], none), ([(8, some 2)], none), ([(0, none)], none), ([(10, some 4)], none), ([(11, some 5)], none), ([(12, some 6)], none), ([(13, some 7)], none)] [(6, 0), (7, 1), (8, 2), (9, 3), (10, 4), (11, 5), (12, 6), (13, 7), (14, 8)] rfl (by kernel_rfl) (by kernel_rfl) (show Stable Grew _ from ⟨Is.stable _, Is.stable _, Is.stable _, Is.stable _, Is.stable _, Is.stable _, Is.stable _, Is.stable _, Is.stable _, trivial⟩)
    · show OpsHold _ _ _ _ _ _ _ _ _
      refine ⟨fun a_ wx hR hD K hK => ?_, ?_⟩
      · have hG : Grew w wx := (Grew.drew _).trans hR
        simp [Deps, Dep, at_, Is] at hD
        go_simp
        exact hK _ _ (Grew.refl _) rfl
      refine ⟨fun a_ wx hR hD K hK => ?_, ?_⟩
      · have hG : Grew w wx := (Grew.drew _).trans hR
        simp [Deps, Dep, at_, Is] at hD
        go_simp
        exact hK _ _ (Grew.refl _) rfl
      refine ⟨fun a_ wx hR hD K hK => ?_, ?_⟩
      · have hG : Grew w wx := (Grew.drew _).trans hR
        simp [Deps, Dep, at_, Is] at hD
        go_simp
        exact hK _ _ (Grew.refl _) rfl
      refine ⟨fun a_ wx hR hD K hK => ?_, ?_⟩
      · have hG : Grew w wx := (Grew.drew _).trans hR
        simp [Deps, Dep, at_, Is] at hD
        have e_ := pw_cell_below hG C2.out
        go_simp
        exact hK _ _ (Grew.refl _) rfl
      refine ⟨fun a_ wx hR hD K hK => ?_, ?_⟩
      · have hG : Grew w wx := (Grew.drew _).trans hR
        simp [Deps, Dep, at_, Is] at hD
        go_simp
        exact hK _ _ (Grew.refl _) rfl
      refine ⟨fun a_ wx hR hD K hK => ?_, ?_⟩
      · have hG : Grew w wx := (Grew.drew _).trans hR
        simp [Deps, Dep, at_, Is] at hD
        go_simp
        exact hK _ _ (Grew.refl _) rfl
      refine ⟨fun a_ wx hR hD K hK => ?_, ?_⟩
      · have hG : Grew w wx := (Grew.drew _).trans hR
        simp [Deps, Dep, at_, Is] at hD
        go_simp
        exact hK _ _ (Grew.refl _) rfl
      refine ⟨fun a_ wx hR hD K hK => ?_, ?_⟩
      · have hG : Grew w wx := (Grew.drew _).trans hR
        simp [Deps, Dep, at_, Is] at hD
        have e_ := pw_cell_below hG C0.out
        go_simp
        exact hK _ _ (Grew.refl _) rfl
      refine ⟨fun a_ wx hR hD K hK => ?_, ?_⟩
      · have hG : Grew w wx := (Grew.drew _).trans hR
        simp [Deps, Dep, at_, Is] at hD
        go_simp
        exact hK _ _ (Grew.refl _) rfl
      trivial
    · show EndHold _ _ _ _ _ _ _
      refine end_all (xs := [_, _, _, _, _, _, _, _, _]) ⟨rfl, rfl, rfl, rfl, rfl, rfl, rfl, rfl, rfl, trivial⟩ ?_
      rintro w1 hR1 -
      refine ⟨?_⟩
      have hG_w1 : Grew w w1 := (Grew.drew _).trans hR1
      clear hR1
      simp only [Act.put, List.setIfInBounds_toArray, List.set_cons_succ, List.set_cons_zero, dropN, putEach]
      go_wp2
      apply region_grew [Is _, Is _, Is _, Is _, Is _, Is _, Is _, Is _, Is _, Is _, Is _, Is _, Is _, Is _, Is _, Is _, Is _, Is _, Is _, Is _] [([(0, none)], none), ([(16, some 0)], none), ([(17, some 1)], none), ([(18, some 2)], none), ([(0, none)], none), ([(20, some 4)], none), ([(21, some 5)], none), ([(22, some 6)], none), ([(0, none)], none), ([(24, some 8)], none), ([(25, some 9)], none), ([(26, some 10)], none), ([(23, some 7), (27, some 11)], none), ([(0, none)], none), ([(29, some 13)], none), ([(30, some 14)], none), ([(31, some 15)], none), ([(32, some 16)], none), ([(28, some 12), (33, some 17)], none), ([(1, none)], none)] [(16, 0), (17, 1), (18, 2), (19, 3), (20, 4), (21, 5), (22, 6), (23, 7), (24, 8), (25, 9), (26, 10), (27, 11), (28, 12), (29, 13), (30, 14), (31, 15), (32, 16), (33, 17), (34, 18), (35, 19)] rfl (by kernel_rfl) (by kernel_rfl) (show Stable Grew _ from ⟨Is.stable _, Is.stable _, Is.stable _, Is.stable _, Is.stable _, Is.stable _, Is.stable _, Is.stable _, Is.stable _, Is.stable _, Is.stable _, Is.stable _, Is.stable _, Is.stable _, Is.stable _, Is.stable _, Is.stable _, Is.stable _, Is.stable _, Is.stable _, trivial⟩)
      · show OpsHold _ _ _ _ _ _ _ _ _
        refine ⟨fun a_ wx hR hD K hK => ?_, ?_⟩
        · have hG : Grew w1 wx := (Grew.drew _).trans hR
          simp [Deps, Dep, at_, Is] at hD
          go_simp
          exact hK _ _ (Grew.refl _) rfl
        refine ⟨fun a_ wx hR hD K hK => ?_, ?_⟩
        · have hG : Grew w1 wx := (Grew.drew _).trans hR
          simp [Deps, Dep, at_, Is] at hD
          go_simp
          exact hK _ _ (Grew.refl _) rfl
        refine ⟨fun a_ wx hR hD K hK => ?_, ?_⟩
        · have hG : Grew w1 wx := (Grew.drew _).trans hR
          simp [Deps, Dep, at_, Is] at hD
          go_simp
          exact hK _ _ (Grew.refl _) rfl
        refine ⟨fun a_ wx hR hD K hK => ?_, ?_⟩
        · have hG : Grew w1 wx := (Grew.drew _).trans hR
          simp [Deps, Dep, at_, Is] at hD
          have e_ := pw_cell_below hG (pw_cell_below hG_w1 C0.out)
          go_simp
          exact hK _ _ (Grew.refl _) rfl
        refine ⟨fun a_ wx hR hD K hK => ?_, ?_⟩
        · have hG : Grew w1 wx := (Grew.drew _).trans hR
          simp [Deps, Dep, at_, Is] at hD
          go_simp
          exact hK _ _ (Grew.refl _) rfl
        refine ⟨fun a_ wx hR hD K hK => ?_, ?_⟩
        · have hG : Grew w1 wx := (Grew.drew _).trans hR
          simp [Deps, Dep, at_, Is] at hD
          go_simp
          exact hK _ _ (Grew.refl _) rfl
        refine ⟨fun a_ wx hR hD K hK => ?_, ?_⟩
        · have hG : Grew w1 wx := (Grew.drew _).trans hR
          simp [Deps, Dep, at_, Is] at hD
          go_simp
          exact hK _ _ (Grew.refl _) rfl
        refine ⟨fun a_ wx hR hD K hK => ?_, ?_⟩
        · have hG : Grew w1 wx := (Grew.drew _).trans hR
          simp [Deps, Dep, at_, Is] at hD
          have e_ := pw_cell_below hG (pw_cell_below hG_w1 C1.out)
          go_simp
          exact hK _ _ (Grew.refl _) rfl
        refine ⟨fun a_ wx hR hD K hK => ?_, ?_⟩
        · have hG : Grew w1 wx := (Grew.drew _).trans hR
          simp [Deps, Dep, at_, Is] at hD
          go_simp
          exact hK _ _ (Grew.refl _) rfl
        refine ⟨fun a_ wx hR hD K hK => ?_, ?_⟩
        · have hG : Grew w1 wx := (Grew.drew _).trans hR
          simp [Deps, Dep, at_, Is] at hD
          go_simp
          exact hK _ _ (Grew.refl _) rfl
        refine ⟨fun a_ wx hR hD K hK => ?_, ?_⟩
        · have hG : Grew w1 wx := (Grew.drew _).trans hR
          simp [Deps, Dep, at_, Is] at hD
          go_simp
          exact hK _ _ (Grew.refl _) rfl
        refine ⟨fun a_ wx hR hD K hK => ?_, ?_⟩
        · have hG : Grew w1 wx := (Grew.drew _).trans hR
          simp [Deps, Dep, at_, Is] at hD
          have e_ := pw_cell_below hG (pw_cell_below hG_w1 C2.out)
          go_simp
          exact hK _ _ (Grew.refl _) rfl
        refine ⟨fun a_ wx hR hD K hK => ?_, ?_⟩
        · have hG : Grew w1 wx := (Grew.drew _).trans hR
          simp [Deps, Dep, at_, Is] at hD
          obtain ⟨hd0, hd1⟩ := hD
          go_simp
          exact hK _ _ (Grew.refl _) rfl
        refine ⟨fun a_ wx hR hD K hK => ?_, ?_⟩
        · have hG : Grew w1 wx := (Grew.drew _).trans hR
          simp [Deps, Dep, at_, Is] at hD
          go_simp
          exact hK _ _ (Grew.refl _) rfl
        refine ⟨fun a_ wx hR hD K hK => ?_, ?_⟩
        · have hG : Grew w1 wx := (Grew.drew _).trans hR
          simp [Deps, Dep, at_, Is] at hD
          go_simp
          exact hK _ _ (Grew.refl _) rfl
        refine ⟨fun a_ wx hR hD K hK => ?_, ?_⟩
        · have hG : Grew w1 wx := (Grew.drew _).trans hR
          simp [Deps, Dep, at_, Is] at hD
          go_simp
          exact hK _ _ (Grew.refl _) rfl
        refine ⟨fun a_ wx hR hD K hK => ?_, ?_⟩
        · have hG : Grew w1 wx := (Grew.drew _).trans hR
          simp [Deps, Dep, at_, Is] at hD
          have e_ := pw_cell_below hG (pw_cell_below hG_w1 C0.out)
          go_simp
          exact hK _ _ (Grew.refl _) rfl
        refine ⟨fun a_ wx hR hD K hK => ?_, ?_⟩
        · have hG : Grew w1 wx := (Grew.drew _).trans hR
          simp [Deps, Dep, at_, Is] at hD
          go_simp
          exact hK _ _ (Grew.refl _) rfl
        refine ⟨fun a_ wx hR hD K hK => ?_, ?_⟩
        · have hG : Grew w1 wx := (Grew.drew _).trans hR
          simp [Deps, Dep, at_, Is] at hD
          obtain ⟨hd0, hd1⟩ := hD
          go_simp
          exact hK _ _ (Grew.refl _) rfl
        refine ⟨fun a_ wx hR hD K hK => ?_, ?_⟩
        · have hG : Grew w1 wx := (Grew.drew _).trans hR
          simp [Deps, Dep, at_, Is] at hD
          go_simp
          exact hK _ _ (Grew.refl _) rfl
        trivial
      · show EndHold _ _ _ _ _ _ _
        refine end_all (xs := [_, _, _, _, _, _, _, _, _, _, _, _, _, _, _, _, _, _, _, _]) ⟨rfl, rfl, rfl, rfl, rfl, rfl, rfl, rfl, rfl, rfl, rfl, rfl, rfl, rfl, rfl, rfl, rfl, rfl, rfl, rfl, trivial⟩ ?_
        rintro w2 hR1 -
        refine ⟨?_⟩
        have hG_w2 : Grew w1 w2 := (Grew.drew _).trans hR1
        clear hR1
        simp only [Act.put, List.setIfInBounds_toArray, List.set_cons_succ, List.set_cons_zero, dropN, putEach]
        have h := H.out
        have hgw : Grew w w2 := hG_w1.trans hG_w2
        have hp := HP.out
        have hbl := h.len
        have hrow := h.row.grew hgw
        have hcw := h.cells.grew hgw
        have r1 : w2.cell? ⟨gb, p, none⟩ = some (.int .u8 (b.getD p 0)) := by rw [hrow.at_]; simp [nums, hbl, e2]
        have r2 := hrow.fz p
        obtain ⟨W2, hW2⟩ : ∃ W2, W2 = w2.setCell ⟨gb, p, none⟩ (.int .u8 c) := ⟨_, rfl⟩
        have hrow2 := hrow.set p (.int .u8 c)
        have hcw2 := hcw.far (p := ⟨gb, p, none⟩) h.ne (.int .u8 c)
        obtain ⟨W3, hW3⟩ : ∃ W3, W3 = W2.setCell ⟨g, 2, none⟩ (.int .i64 ((s.length : Int) + 1)) := ⟨_, rfl⟩
        rw [← hW2] at hrow2 hcw2
        have hrow3 := hrow2.far (p := ⟨g, 2, none⟩) h.ne.symm (.int .i64 ((s.length : Int) + 1))
        have hcw3 := hcw2.set 2 (.int .i64 ((s.length : Int) + 1))
        rw [← hW3] at hrow3 hcw3
        have hu3 : Upd (WS g gb) w W3 := by
          rw [hW3, hW2]
          exact ((Upd.of_grew hgw).set (p := ⟨gb, p, none⟩) (.inl (.inr rfl)) _).set (p := ⟨g, 2, none⟩) (.inl (.inl rfl)) _
        have q2 := hcw2.at_ 2
        have f2 := hcw2.fz 2
        rw [hW2] at q2 f2 hW3
        simp only [List.getElem?_cons_succ, List.getElem?_cons_zero] at q2
        have HW3 := Lib.hid hW3
        have R1 := Lib.hid hrow3
        have R2 := Lib.hid hcw3
        have R3 := Lib.hid hbl
        have R4 := Lib.hid (hcw3.at_ 3)
        clear hrow hcw h hbl hp e1 e3 hrow2 hcw2 hrow3 hcw3 hW2 hW3
        go_wp2
        rw [← HW3.out]
        have wr := weak_range s
        have e4 : IntKind.u32.wrap c = c := u32_wraps c hc0 (by omega)
        apply region_grew [Is _, Is _, Is _, Is _, Is _, Is _, Is _, Is _, Is _, Is _, Is _] [([(0, none)], none), ([(0, none)], none), ([(45, some 1)], none), ([(46, some 2)], none), ([(47, some 3)], none), ([(1, none)], none), ([(49, some 5)], none), ([(1, none)], none), ([(51, some 7)], none), ([(50, some 6), (52, some 8)], none), ([(48, some 4), (53, some 9)], none)] [(44, 0), (45, 1), (46, 2), (47, 3), (48, 4), (49, 5), (50, 6), (51, 7), (52, 8), (53, 9), (54, 10)] rfl (by kernel_rfl) (by kernel_rfl) (show Stable Grew _ from ⟨Is.stable _, Is.stable _, Is.stable _, Is.stable _, Is.stable _, Is.stable _, Is.stable _, Is.stable _, Is.stable _, Is.stable _, Is.stable _, trivial⟩)
        · show OpsHold _ _ _ _ _ _ _ _ _
          refine ⟨fun a_ wx hR hD K hK => ?_, ?_⟩
          · have hG : Grew W3 wx := (Grew.drew _).trans hR
            simp [Deps, Dep, at_, Is] at hD
            go_simp
            exact hK _ _ (Grew.refl _) rfl
          refine ⟨fun a_ wx hR hD K hK => ?_, ?_⟩
          · have hG : Grew W3 wx := (Grew.drew _).trans hR
            simp [Deps, Dep, at_, Is] at hD
            go_simp
            exact hK _ _ (Grew.refl _) rfl
          refine ⟨fun a_ wx hR hD K hK => ?_, ?_⟩
          · have hG : Grew W3 wx := (Grew.drew _).trans hR
            simp [Deps, Dep, at_, Is] at hD
            go_simp
            exact hK _ _ (Grew.refl _) rfl
          refine ⟨fun a_ wx hR hD K hK => ?_, ?_⟩
          · have hG : Grew W3 wx := (Grew.drew _).trans hR
            simp [Deps, Dep, at_, Is] at hD
            go_simp
            exact hK _ _ (Grew.refl _) rfl
          refine ⟨fun a_ wx hR hD K hK => ?_, ?_⟩
          · have hG : Grew W3 wx := (Grew.drew _).trans hR
            simp [Deps, Dep, at_, Is] at hD
            have e_ := pw_cell_below hG R4.out
            go_simp
            exact hK _ _ (Grew.refl _) rfl
          refine ⟨fun a_ wx hR hD K hK => ?_, ?_⟩
          · have hG : Grew W3 wx := (Grew.drew _).trans hR
            simp [Deps, Dep, at_, Is] at hD
            go_simp
            exact hK _ _ (Grew.refl _) rfl
          refine ⟨fun a_ wx hR hD K hK => ?_, ?_⟩
          · have hG : Grew W3 wx := (Grew.drew _).trans hR
            simp [Deps, Dep, at_, Is] at hD
            go_simp
            exact hK _ _ (Grew.refl _) rfl
          refine ⟨fun a_ wx hR hD K hK => ?_, ?_⟩
          · have hG : Grew W3 wx := (Grew.drew _).trans hR
            simp [Deps, Dep, at_, Is] at hD
            go_simp
            exact hK _ _ (Grew.refl _) rfl
          refine ⟨fun a_ wx hR hD K hK => ?_, ?_⟩
          · have hG : Grew W3 wx := (Grew.drew _).trans hR
            simp [Deps, Dep, at_, Is] at hD
            go_simp
            exact hK _ _ (Grew.refl _) rfl
          refine ⟨fun a_ wx hR hD K hK => ?_, ?_⟩
          · have hG : Grew W3 wx := (Grew.drew _).trans hR
            simp [Deps, Dep, at_, Is] at hD
            obtain ⟨hd0, hd1⟩ := hD
            go_simp
            have hcn := make16_c c c wx hc0 (by omega)
            with_reducible refine hcn.mono ?_
            clear hcn
            rintro e wy ⟨v, rfl, hv, hg⟩
            exact hK _ _ hg hv
          refine ⟨fun a_ wx hR hD K hK => ?_, ?_⟩
          · have hG : Grew W3 wx := (Grew.drew _).trans hR
            simp [Deps, Dep, at_, Is] at hD
            obtain ⟨hd0, hd1⟩ := hD
            go_simp
            have hcn := join_c (weak s) (c % 65536 + 65536 * (c % 65536)) 1 wx wr.1 wr.2 (by omega) (by omega)
            with_reducible refine hcn.mono ?_
            clear hcn
            rintro e wy ⟨v, rfl, hv, hg⟩
            exact hK _ _ hg hv
          trivial
        · show EndHold _ _ _ _ _ _ _
          refine end_all (xs := [_, _, _, _, _, _, _, _, _, _, _]) ⟨rfl, rfl, rfl, rfl, rfl, rfl, rfl, rfl, rfl, rfl, rfl, trivial⟩ ?_
          rintro w4 hR1 -
          refine ⟨?_⟩
          have hG_w4 : Grew W3 w4 := (Grew.drew _).trans hR1
          clear hR1
          simp only [Act.put, List.setIfInBounds_toArray, List.set_cons_succ, List.set_cons_zero, dropN, putEach]
          have hrow4 := R1.out.grew hG_w4
          have hcw4 := R2.out.grew hG_w4
          have q3 := hcw4.at_ 3
          have f3 := hcw4.fz 3
          have hend := hcw4.set 3 (.int .u32 (join (weak s) (c % 65536 + 65536 * (c % 65536)) 1))
          have hrow5 := hrow4.far (p := ⟨g, 3, none⟩) H.out.ne.symm (.int .u32 (join (weak s) (c % 65536 + 65536 * (c % 65536)) 1))
          have E := Lib.hid hend
          have E2 := Lib.hid hrow5
          clear hrow4 hcw4 hend hrow5
          go_wp2
          refine bodyPost_ret (results_none rfl _ _ _) rfl ?_
          have h := H.out
          refine ⟨_, rfl, ⟨rfl, a, b.set p c, h.ne, ?_, ?_, by rw [List.length_set]; exact h.len, ?_, h.small, ?_⟩, ?_⟩
          · have := E.out
            rw [lastL_short (by simp; omega), ← weak_put]
            simpa using this
          · have := E2.out
            simpa [nums, List.map_set] using this
          · rw [lastL_short (by simp; omega)]
            have := h.ring.room (by rw [h.len]; exact hroom) c
            rw [h.len] at this
            rw [HP.out]
            exact this
          · intro x hx
            rw [lastL_short (by simp; omega)] at hx
            rcases List.mem_append.1 hx with hx | hx
            · exact h.bytes x hx
            · simp at hx; omega
          · exact (hu3.trans (Upd.of_grew hG_w4)).set (.inl (.inl rfl)) _
  · obtain rfl : s.length = size := by omega
    have d1 : decide (s.length < s.length) = false := decide_eq_false (by omega)
    have hs0 : 0 < s.length := by omega
    have z0 : ¬ s.length = 0 := by omega
    have k0 : (0 : Int) ≤ (a : Int) := by omega
    have k1 : (a : Int) < (s.length : Int) := by omega
    have k2 : a < s.length := hlt
    have e1 : (((a : Int) + 1).tmod (s.length : Int)) = (((a + 1) % s.length : Nat) : Int) := by
      rw [show ((a : Int) + 1) = ((a + 1 : Nat) : Int) from by omega]; rfl
    have e3 : IntKind.i64.wrap ((a : Int) + 1) = (a : Int) + 1 := IntWalk.i64_in _ (by omega)
    have E1 := Lib.hid e1
    have E3 := Lib.hid e3
    clear e1 e3
    have wr := weak_range s
    have C4 := Lib.hid (show w.cell? ⟨gb, a, none⟩ = some (.int .u8 (s.getD 0 0)) by
      rw [H.out.row.at_, ← H.out.ring.get0 hs0]
      have := H.out.len
      simp [nums, this, hlt])
    have hy := H.out.bytes (s.getD 0 0) (by rw [List.getD_eq_getElem?_getD, List.getElem?_eq_getElem hs0]; exact List.getElem_mem hs0)
    obtain ⟨y, hyy⟩ : ∃ y, y = s.getD 0 0 := ⟨_, rfl⟩
    rw [← hyy] at C4 hy
    have HY := Lib.hid hyy
    clear hyy
    go_enter Try.func26, Try.ntmps26
    go_wp2
    apply region_grew [Is _, Is _, Is _, Is _, Is _, Is _, Is _, Is _, Is _] [([(0, none)], none), ([(6, some 0)], none), ([(7, some 1)], none), ([(8, some 2)], none), ([(0, none)], none), ([(10, some 4)], none), ([(11, some 5)], none), ([(12, some 6)], none), ([(13, some 7)], none)] [(6, 0), (7, 1), (8, 2), (9, 3), (10, 4), (11, 5), (12, 6), (13, 7), (14, 8)] rfl (by kernel_rfl) (by kernel_rfl) (show Stable Grew _ from ⟨Is.stable _, Is.stable _, Is.stable _, Is.stable _, Is.stable _, Is.stable _, Is.stable _, Is.stable _, Is.stable _, trivial⟩)
    · show OpsHold _ _ _ _ _ _ _ _ _
      refine ⟨fun a_ wx hR hD K hK => ?_, ?_⟩
      · have hG : Grew w wx := (Grew.drew _).trans hR
        simp [Deps, Dep, at_, Is] at hD
        go_simp
        exact hK _ _ (Grew.refl _) rfl
      refine ⟨fun a_ wx hR hD K hK => ?_, ?_⟩
      · have hG : Grew w wx := (Grew.drew _).trans hR
        simp [Deps, Dep, at_, Is] at hD
        go_simp
        exact hK _ _ (Grew.refl _) rfl
      refine ⟨fun a_ wx hR hD K hK => ?_, ?_⟩
      · have hG : Grew w wx := (Grew.drew _).trans hR
        simp [Deps, Dep, at_, Is] at hD
        go_simp
        exact hK _ _ (Grew.refl _) rfl
      refine ⟨fun a_ wx hR hD K hK => ?_, ?_⟩
      · have hG : Grew w wx := (Grew.drew _).trans hR
        simp [Deps, Dep, at_, Is] at hD
        have e_ := pw_cell_below hG C2.out
        go_simp
        exact hK _ _ (Grew.refl _) rfl
      refine ⟨fun a_ wx hR hD K hK => ?_, ?_⟩
      · have hG : Grew w wx := (Grew.drew _).trans hR
        simp [Deps, Dep, at_, Is] at hD
        go_simp
        exact hK _ _ (Grew.refl _) rfl
      refine ⟨fun a_ wx hR hD K hK => ?_, ?_⟩
      · have hG : Grew w wx := (Grew.drew _).trans hR
        simp [Deps, Dep, at_, Is] at hD
        go_simp
        exact hK _ _ (Grew.refl _) rfl
      refine ⟨fun a_ wx hR hD K hK => ?_, ?_⟩
      · have hG : Grew w wx := (Grew.drew _).trans hR
        simp [Deps, Dep, at_, Is] at hD
        go_simp
        exact hK _ _ (Grew.refl _) rfl
      refine ⟨fun a_ wx hR hD K hK => ?_, ?_⟩
      · have hG : Grew w wx := (Grew.drew _).trans hR
        simp [Deps, Dep, at_, Is] at hD
        have e_ := pw_cell_below hG C0.out
        go_simp
        exact hK _ _ (Grew.refl _) rfl
      refine ⟨fun a_ wx hR hD K hK => ?_, ?_⟩
      · have hG : Grew w wx := (Grew.drew _).trans hR
        simp [Deps, Dep, at_, Is] at hD
        go_simp
        exact hK _ _ (Grew.refl _) rfl
      trivial
    · show EndHold _ _ _ _ _ _ _
      refine end_all (xs := [_, _, _, _, _, _, _, _, _]) ⟨rfl, rfl, rfl, rfl, rfl, rfl, rfl, rfl, rfl, trivial⟩ ?_
      rintro w1 hR1 -
      refine ⟨?_⟩
      have hG_w1 : Grew w w1 := (Grew.drew _).trans hR1
      clear hR1
      simp only [Act.put, List.setIfInBounds_toArray, List.set_cons_succ, List.set_cons_zero, dropN, putEach]
      go_wp2
      apply region_grew [Is _, Is _, Is _, Is _, Is _, Is _, Is _, Is _, Is _, Is _, Is _, Is _, Is _, Is _, Is _, Is _, Is _, Is _, Is _, Is _, Is _] [([(0, none)], none), ([(0, none)], none), ([(58, some 1)], none), ([(59, some 2)], none), ([(60, some 3)], none), ([(0, none)], none), ([(62, some 5)], none), ([(63, some 6)], none), ([(64, some 7)], none), ([(0, none)], none), ([(66, some 9)], none), ([(67, some 10)], none), ([(68, some 11)], none), ([(0, none)], none), ([(70, some 13)], none), ([(71, some 14)], none), ([(72, some 15)], none), ([(69, some 12), (73, some 16)], none), ([(74, some 17)], none), ([(1, none)], none), ([(61, some 4), (65, some 8), (75, some 18), (76, some 19)], none)] [(57, 0), (58, 1), (59, 2), (60, 3), (61, 4), (62, 5), (63, 6), (64, 7), (65, 8), (66, 9), (67, 10), (68, 11), (69, 12), (70, 13), (71, 14), (72, 15), (73, 16), (74, 17), (75, 18), (76, 19), (77, 20)] rfl (by kernel_rfl) (by kernel_rfl) (show Stable Grew _ from ⟨Is.stable _, Is.stable _, Is.stable _, Is.stable _, Is.stable _, Is.stable _, Is.stable _, Is.stable _, Is.stable _, Is.stable _, Is.stable _, Is.stable _, Is.stable _, Is.stable _, Is.stable _, Is.stable _, Is.stable _, Is.stable _, Is.stable _, Is.stable _, Is.stable _, trivial⟩)
      · show OpsHold _ _ _ _ _ _ _ _ _
        refine ⟨fun a_ wx hR hD K hK => ?_, ?_⟩
        · have hG : Grew w1 wx := (Grew.drew _).trans hR
          simp [Deps, Dep, at_, Is] at hD
          go_simp
          exact hK _ _ (Grew.refl _) rfl
        refine ⟨fun a_ wx hR hD K hK => ?_, ?_⟩
        · have hG : Grew w1 wx := (Grew.drew _).trans hR
          simp [Deps, Dep, at_, Is] at hD
          go_simp
          exact hK _ _ (Grew.refl _) rfl
        refine ⟨fun a_ wx hR hD K hK => ?_, ?_⟩
        · have hG : Grew w1 wx := (Grew.drew _).trans hR
          simp [Deps, Dep, at_, Is] at hD
          go_simp
          exact hK _ _ (Grew.refl _) rfl
        refine ⟨fun a_ wx hR hD K hK => ?_, ?_⟩
        · have hG : Grew w1 wx := (Grew.drew _).trans hR
          simp [Deps, Dep, at_, Is] at hD
          go_simp
          exact hK _ _ (Grew.refl _) rfl
        refine ⟨fun a_ wx hR hD K hK => ?_, ?_⟩
        · have hG : Grew w1 wx := (Grew.drew _).trans hR
          simp [Deps, Dep, at_, Is] at hD
          have e_ := pw_cell_below hG (pw_cell_below hG_w1 C3.out)
          go_simp
          exact hK _ _ (Grew.refl _) rfl
        refine ⟨fun a_ wx hR hD K hK => ?_, ?_⟩
        · have hG : Grew w1 wx := (Grew.drew _).trans hR
          simp [Deps, Dep, at_, Is] at hD
          go_simp
          exact hK _ _ (Grew.refl _) rfl
        refine ⟨fun a_ wx hR hD K hK => ?_, ?_⟩
        · have hG : Grew w1 wx := (Grew.drew _).trans hR
          simp [Deps, Dep, at_, Is] at hD
          go_simp
          exact hK _ _ (Grew.refl _) rfl
        refine ⟨fun a_ wx hR hD K hK => ?_, ?_⟩
        · have hG : Grew w1 wx := (Grew.drew _).trans hR
          simp [Deps, Dep, at_, Is] at hD
          go_simp
          exact hK _ _ (Grew.refl _) rfl
        refine ⟨fun a_ wx hR hD K hK => ?_, ?_⟩
        · have hG : Grew w1 wx := (Grew.drew _).trans hR
          simp [Deps, Dep, at_, Is] at hD
          have e_ := pw_cell_below hG (pw_cell_below hG_w1 C2.out)
          go_simp
          exact hK _ _ (Grew.refl _) rfl
        refine ⟨fun a_ wx hR hD K hK => ?_, ?_⟩
        · have hG : Grew w1 wx := (Grew.drew _).trans hR
          simp [Deps, Dep, at_, Is] at hD
          go_simp
          exact hK _ _ (Grew.refl _) rfl
        refine ⟨fun a_ wx hR hD K hK => ?_, ?_⟩
        · have hG : Grew w1 wx := (Grew.drew _).trans hR
          simp [Deps, Dep, at_, Is] at hD
          go_simp
          exact hK _ _ (Grew.refl _) rfl
        refine ⟨fun a_ wx hR hD K hK => ?_, ?_⟩
        · have hG : Grew w1 wx := (Grew.drew _).trans hR
          simp [Deps, Dep, at_, Is] at hD
          go_simp
          exact hK _ _ (Grew.refl _) rfl
        refine ⟨fun a_ wx hR hD K hK => ?_, ?_⟩
        · have hG : Grew w1 wx := (Grew.drew _).trans hR
          simp [Deps, Dep, at_, Is] at hD
          have e_ := pw_cell_below hG (pw_cell_below hG_w1 C0.out)
          go_simp
          exact hK _ _ (Grew.refl _) rfl
        refine ⟨fun a_ wx hR hD K hK => ?_, ?_⟩
        · have hG : Grew w1 wx := (Grew.drew _).trans hR
          simp [Deps, Dep, at_, Is] at hD
          go_simp
          exact hK _ _ (Grew.refl _) rfl
        refine ⟨fun a_ wx hR hD K hK => ?_, ?_⟩
        · have hG : Grew w1 wx := (Grew.drew _).trans hR
          simp [Deps, Dep, at_, Is] at hD
          go_simp
          exact hK _ _ (Grew.refl _) rfl
        refine ⟨fun a_ wx hR hD K hK => ?_, ?_⟩
        · have hG : Grew w1 wx := (Grew.drew _).trans hR
          simp [Deps, Dep, at_, Is] at hD
          go_simp
          exact hK _ _ (Grew.refl _) rfl
        refine ⟨fun a_ wx hR hD K hK => ?_, ?_⟩
        · have hG : Grew w1 wx := (Grew.drew _).trans hR
          simp [Deps, Dep, at_, Is] at hD
          have e_ := pw_cell_below hG (pw_cell_below hG_w1 C1.out)
          go_simp
          exact hK _ _ (Grew.refl _) rfl
        refine ⟨fun a_ wx hR hD K hK => ?_, ?_⟩
        · have hG : Grew w1 wx := (Grew.drew _).trans hR
          simp [Deps, Dep, at_, Is] at hD
          obtain ⟨hd0, hd1⟩ := hD
          go_simp
          exact hK _ _ (Grew.refl _) rfl
        refine ⟨fun a_ wx hR hD K hK => ?_, ?_⟩
        · have hG : Grew w1 wx := (Grew.drew _).trans hR
          simp [Deps, Dep, at_, Is] at hD
          have e_ := pw_cell_below hG (pw_cell_below hG_w1 C4.out)
          go_simp
          exact hK _ _ (Grew.refl _) rfl
        refine ⟨fun a_ wx hR hD K hK => ?_, ?_⟩
        · have hG : Grew w1 wx := (Grew.drew _).trans hR
          simp [Deps, Dep, at_, Is] at hD
          go_simp
          exact hK _ _ (Grew.refl _) rfl
        refine ⟨fun a_ wx hR hD K hK => ?_, ?_⟩
        · have hG : Grew w1 wx := (Grew.drew _).trans hR
          simp [Deps, Dep, at_, Is] at hD
          obtain ⟨hd0, hd1, hd2, hd3⟩ := hD
          go_simp
          have hcn := next_c (weak s) s.length y c wx wr.1 wr.2 hy.1 hy.2 hc0 hc1
          with_reducible refine hcn.mono ?_
          clear hcn
          rintro e wy ⟨v, rfl, hv, hg⟩
          exact hK _ _ hg hv
        trivial
      · show EndHold _ _ _ _ _ _ _
        refine end_all (xs := [_, _, _, _, _, _, _, _, _, _, _, _, _, _, _, _, _, _, _, _, _]) ⟨rfl, rfl, rfl, rfl, rfl, rfl, rfl, rfl, rfl, rfl, rfl, rfl, rfl, rfl, rfl, rfl, rfl, rfl, rfl, rfl, rfl, trivial⟩ ?_
        rintro w2 hR1 -
        refine ⟨?_⟩
        have hG_w2 : Grew w1 w2 := (Grew.drew _).trans hR1
        clear hR1
        simp only [Act.put, List.setIfInBounds_toArray, List.set_cons_succ, List.set_cons_zero, dropN, putEach]
        have h := H.out
        have hgw : Grew w w2 := hG_w1.trans hG_w2
        have hrow := h.row.grew hgw
        have hcw := h.cells.grew hgw
        obtain ⟨W2, hW2⟩ : ∃ W2, W2 = w2.setCell ⟨g, 3, none⟩ (.int .u32 (next (weak s) s.length y c)) := ⟨_, rfl⟩
        have hrow2 := hrow.far (p := ⟨g, 3, none⟩) h.ne.symm (.int .u32 (next (weak s) s.length y c))
        have hcw2 := hcw.set 3 (.int .u32 (next (weak s) s.length y c))
        rw [← hW2] at hrow2 hcw2
        have q3 := hcw.at_ 3
        have f3 := hcw.fz 3
        have hu2 : Upd (WS g gb) w W2 := by
          rw [hW2]
          exact (Upd.of_grew hgw).set (p := ⟨g, 3, none⟩) (.inl (.inl rfl)) _
        have R1 := Lib.hid hrow2
        have R2 := Lib.hid hcw2
        have D0 := Lib.hid (hcw2.at_ 0)
        have D1 := Lib.hid (hcw2.at_ 1)
        have HW2 := Lib.hid hW2
        clear hrow hcw hrow2 hcw2 hW2 h
        go_wp2
        rw [← HW2.out]
        apply region_grew [Is _, Is _, Is _, Is _, Is _, Is _, Is _, Is _, Is _] [([(0, none)], none), ([(80, some 0)], none), ([(81, some 1)], none), ([(82, some 2)], none), ([(0, none)], none), ([(84, some 4)], none), ([(85, some 5)], none), ([(86, some 6)], none), ([(1, none)], none)] [(80, 0), (81, 1), (82, 2), (83, 3), (84, 4), (85, 5), (86, 6), (87, 7), (88, 8)] rfl (by kernel_rfl) (by kernel_rfl) (show Stable Grew _ from ⟨Is.stable _, Is.stable _, Is.stable _, Is.stable _, Is.stable _, Is.stable _, Is.stable _, Is.stable _, Is.stable _, trivial⟩)
        · show OpsHold _ _ _ _ _ _ _ _ _
          refine ⟨fun a_ wx hR hD K hK => ?_, ?_⟩
          · have hG : Grew W2 wx := (Grew.drew _).trans hR
            simp [Deps, Dep, at_, Is] at hD
            go_simp
            exact hK _ _ (Grew.refl _) rfl
          refine ⟨fun a_ wx hR hD K hK => ?_, ?_⟩
          · have hG : Grew W2 wx := (Grew.drew _).trans hR
            simp [Deps, Dep, at_, Is] at hD
            go_simp
            exact hK _ _ (Grew.refl _) rfl
          refine ⟨fun a_ wx hR hD K hK => ?_, ?_⟩
          · have hG : Grew W2 wx := (Grew.drew _).trans hR
            simp [Deps, Dep, at_, Is] at hD
            go_simp
            exact hK _ _ (Grew.refl _) rfl
          refine ⟨fun a_ wx hR hD K hK => ?_, ?_⟩
          · have hG : Grew W2 wx := (Grew.drew _).trans hR
            simp [Deps, Dep, at_, Is] at hD
            have e_ := pw_cell_below hG D0.out
            go_simp
            exact hK _ _ (Grew.refl _) rfl
          refine ⟨fun a_ wx hR hD K hK => ?_, ?_⟩
          · have hG : Grew W2 wx := (Grew.drew _).trans hR
            simp [Deps, Dep, at_, Is] at hD
            go_simp
            exact hK _ _ (Grew.refl _) rfl
          refine ⟨fun a_ wx hR hD K hK => ?_, ?_⟩
          · have hG : Grew W2 wx := (Grew.drew _).trans hR
            simp [Deps, Dep, at_, Is] at hD
            go_simp
            exact hK _ _ (Grew.refl _) rfl
          refine ⟨fun a_ wx hR hD K hK => ?_, ?_⟩
          · have hG : Grew W2 wx := (Grew.drew _).trans hR
            simp [Deps, Dep, at_, Is] at hD
            go_simp
            exact hK _ _ (Grew.refl _) rfl
          refine ⟨fun a_ wx hR hD K hK => ?_, ?_⟩
          · have hG : Grew W2 wx := (Grew.drew _).trans hR
            simp [Deps, Dep, at_, Is] at hD
            have e_ := pw_cell_below hG D1.out
            go_simp
            exact hK _ _ (Grew.refl _) rfl
          refine ⟨fun a_ wx hR hD K hK => ?_, ?_⟩
          · have hG : Grew W2 wx := (Grew.drew _).trans hR
            simp [Deps, Dep, at_, Is] at hD
            go_simp
            exact hK _ _ (Grew.refl _) rfl
          trivial
        · show EndHold _ _ _ _ _ _ _
          refine end_all (xs := [_, _, _, _, _, _, _, _, _]) ⟨rfl, rfl, rfl, rfl, rfl, rfl, rfl, rfl, rfl, trivial⟩ ?_
          rintro w3 hR1 -
          refine ⟨?_⟩
          have hG_w3 : Grew W2 w3 := (Grew.drew _).trans hR1
          clear hR1
          simp only [Act.put, List.setIfInBounds_toArray, List.set_cons_succ, List.set_cons_zero, dropN, putEach]
          have h := H.out
          have hrow := R1.out.grew hG_w3
          have hcw := R2.out.grew hG_w3
          obtain ⟨W3, hW3⟩ : ∃ W3, W3 = w3.setCell ⟨gb, a, none⟩ (.int .u8 c) := ⟨_, rfl⟩
          have hrow2 := hrow.set a (.int .u8 c)
          have hcw2 := hcw.far (p := ⟨gb, a, none⟩) h.ne (.int .u8 c)
          rw [← hW3] at hrow2 hcw2
          have r1 : w3.cell? ⟨gb, a, none⟩ = some (.int .u8 (b.getD a 0)) := by
            have := h.len
            rw [hrow.at_]; simp [nums, this, hlt]
          have r2 := hrow.fz a
          have hu3 : Upd (WS g gb) w W3 := by
            rw [hW3]
            exact (hu2.trans (Upd.of_grew hG_w3)).set (p := ⟨gb, a, none⟩) (.inl (.inr rfl)) _
          have Q1 := Lib.hid hrow2
          have Q2 := Lib.hid hcw2
          have B0 := Lib.hid (hcw2.at_ 0)
          have B1 := Lib.hid (hcw2.at_ 1)
          have HW3 := Lib.hid hW3
          clear hrow hcw hrow2 hcw2 hW3 h
          go_wp2
          rw [← HW3.out]
          have e1 := E1.out
          have e3 := E3.out
          apply region_grew [Is _, Is _, Is _, Is _, Is _, Is _, Is _, Is _, Is _, Is _, Is _, Is _] [([(0, none)], none), ([(0, none)], none), ([(91, some 1)], none), ([(92, some 2)], none), ([(93, some 3)], none), ([(94, some 4)], none), ([(0, none)], none), ([(96, some 6)], none), ([(97, some 7)], none), ([(98, some 8)], none), ([(99, some 9)], none), ([(95, some 5), (100, some 10)], none)] [(90, 0), (91, 1), (92, 2), (93, 3), (94, 4), (95, 5), (96, 6), (97, 7), (98, 8), (99, 9), (100, 10), (101, 11)] rfl (by kernel_rfl) (by kernel_rfl) (show Stable Grew _ from ⟨Is.stable _, Is.stable _, Is.stable _, Is.stable _, Is.stable _, Is.stable _, Is.stable _, Is.stable _, Is.stable _, Is.stable _, Is.stable _, Is.stable _, trivial⟩)
          · show OpsHold _ _ _ _ _ _ _ _ _
            refine ⟨fun a_ wx hR hD K hK => ?_, ?_⟩
            · have hG : Grew W3 wx := (Grew.drew _).trans hR
              simp [Deps, Dep, at_, Is] at hD
              go_simp
              exact hK _ _ (Grew.refl _) rfl
            refine ⟨fun a_ wx hR hD K hK => ?_, ?_⟩
            · have hG : Grew W3 wx := (Grew.drew _).trans hR
              simp [Deps, Dep, at_, Is] at hD
              go_simp
              exact hK _ _ (Grew.refl _) rfl
            refine ⟨fun a_ wx hR hD K hK => ?_, ?_⟩
            · have hG : Grew W3 wx := (Grew.drew _).trans hR
              simp [Deps, Dep, at_, Is] at hD
              go_simp
              exact hK _ _ (Grew.refl _) rfl
            refine ⟨fun a_ wx hR hD K hK => ?_, ?_⟩
            · have hG : Grew W3 wx := (Grew.drew _).trans hR
              simp [Deps, Dep, at_, Is] at hD
              go_simp
              exact hK _ _ (Grew.refl _) rfl
            refine ⟨fun a_ wx hR hD K hK => ?_, ?_⟩
            · have hG : Grew W3 wx := (Grew.drew _).trans hR
              simp [Deps, Dep, at_, Is] at hD
              have e_ := pw_cell_below hG B1.out
              go_simp
              exact hK _ _ (Grew.refl _) rfl
            refine ⟨fun a_ wx hR hD K hK => ?_, ?_⟩
            · have hG : Grew W3 wx := (Grew.drew _).trans hR
              simp [Deps, Dep, at_, Is] at hD
              go_simp
              exact hK _ _ (Grew.refl _) rfl
            refine ⟨fun a_ wx hR hD K hK => ?_, ?_⟩
            · have hG : Grew W3 wx := (Grew.drew _).trans hR
              simp [Deps, Dep, at_, Is] at hD
              go_simp
              exact hK _ _ (Grew.refl _) rfl
            refine ⟨fun a_ wx hR hD K hK => ?_, ?_⟩
            · have hG : Grew W3 wx := (Grew.drew _).trans hR
              simp [Deps, Dep, at_, Is] at hD
              go_simp
              exact hK _ _ (Grew.refl _) rfl
            refine ⟨fun a_ wx hR hD K hK => ?_, ?_⟩
            · have hG : Grew W3 wx := (Grew.drew _).trans hR
              simp [Deps, Dep, at_, Is] at hD
              go_simp
              exact hK _ _ (Grew.refl _) rfl
            refine ⟨fun a_ wx hR hD K hK => ?_, ?_⟩
            · have hG : Grew W3 wx := (Grew.drew _).trans hR
              simp [Deps, Dep, at_, Is] at hD
              have e_ := pw_cell_below hG B0.out
              go_simp
              exact hK _ _ (Grew.refl _) rfl
            refine ⟨fun a_ wx hR hD K hK => ?_, ?_⟩
            · have hG : Grew W3 wx := (Grew.drew _).trans hR
              simp [Deps, Dep, at_, Is] at hD
              go_simp
              exact hK _ _ (Grew.refl _) rfl
            refine ⟨fun a_ wx hR hD K hK => ?_, ?_⟩
            · have hG : Grew W3 wx := (Grew.drew _).trans hR
              simp [Deps, Dep, at_, Is] at hD
              obtain ⟨hd0, hd1⟩ := hD
              go_simp
              exact hK _ _ (Grew.refl _) rfl
            trivial
          · show EndHold _ _ _ _ _ _ _
            refine end_all (xs := [_, _, _, _, _, _, _, _, _, _, _, _]) ⟨rfl, rfl, rfl, rfl, rfl, rfl, rfl, rfl, rfl, rfl, rfl, rfl, trivial⟩ ?_
            rintro w4 hR1 -
            refine ⟨?_⟩
            have hG_w4 : Grew W3 w4 := (Grew.drew _).trans hR1
            clear hR1
            simp only [Act.put, List.setIfInBounds_toArray, List.set_cons_succ, List.set_cons_zero, dropN, putEach]
            have h := H.out
            have hrow := Q1.out.grew hG_w4
            have hcw := Q2.out.grew hG_w4
            have r1 := hcw.at_ 1
            have r2 := hcw.fz 1
            have hend := hcw.set 1 (.int .i64 ((a + 1) % s.length : Nat))
            have hrow5 := hrow.far (p := ⟨g, 1, none⟩) h.ne.symm (.int .i64 ((a + 1) % s.length : Nat))
            have E := Lib.hid hend
            have E2 := Lib.hid hrow5
            clear hrow hcw hend hrow5 h
            go_wp2
            go_end0
            have h := H.out
            refine ⟨_, rfl, ⟨rfl, (a + 1) % s.length, b.set a c, h.ne, ?_, ?_, by rw [List.length_set]; exact h.len, ?_, h.small, ?_⟩, ?_⟩
            · have := E.out
              rw [HY.out, weak_roll s c hs0] at this
              rw [lastL_full c rfl hs0, List.length_append, List.length_drop, List.length_singleton, Nat.sub_add_cancel hs0]
              simpa using this
            · have := E2.out
              simpa [nums, List.map_set] using this
            · rw [lastL_full c rfl hs0]
              have := h.ring.full h.len.symm c
              rw [h.len] at this
              exact this
            · intro x hx
              rw [lastL_full c rfl hs0] at hx
              rcases List.mem_append.1 hx with hx | hx
              · exact h.bytes x (List.mem_of_mem_drop hx)
              · simp at hx; omega
            · exact (hu3.trans (Upd.of_grew hG_w4)).set (.inl (.inl rfl)) _
theorem put_nil (c : Int) (w : World) : Calls Try.prog 26 #[.pointer none, .int .u8 c] w (Tells w (Is (.tuple #[]))) := by
  go_enter Try.func26, Try.ntmps26
  go_wp2
  refine bodyPost_ret (results_none rfl _ _ _) rfl ?_
  exact ⟨_, rfl, rfl, Grew.refl _⟩
theorem clear_nil (w : World) : Calls Try.prog 29 #[.pointer none] w (Tells w (Is (.tuple #[]))) := by
  go_enter Try.func29, Try.ntmps29
  go_wp2
  go_end0
  exact ⟨_, rfl, rfl, Grew.refl _⟩
theorem wsum_nil (w : World) : Calls Try.prog 27 #[.pointer none] w (Tells w (Is (.tuple #[.int .u32 0, .bool false]))) := by
  go_enter Try.func27, Try.ntmps27
  go_wp2
  go_ret2
  exact ⟨_, rfl, rfl, Grew.refl _⟩
end Go.Proofs.Ytaeobiilihklhaa.F

-- ChunkM
namespace Go.Proofs.YtaeobiilihklhaaM
open Go Go.RowKit
/-- is a place with this weak sum marked? -/
def markB (n bits : Int) : Bool := decide ((n * 2654435761) % 4294967296 < 2 ^ (32 - min bits.toNat 32))
/-- what a measure asks of n bytes behind the window s -/
def cutsB (lo hi bits : Int) (n : Nat) (s : List Int) : Bool := decide (lo ≤ n) && (decide ((n : Int) = hi) || markB (weak s) bits)
/-- the run: the window's bytes, the bytes that wait, the bytes to come, what was cut off -/
def cutRun (lo hi bits : Int) : List Int → List Int → List Int → List (List Int) → List (List Int) × List Int × List Int
  | s, b, [], acc => (acc, s, b)
  | s, b, x :: l, acc => if cutsB lo hi bits (b.length + 1) (lastL 16 (s ++ [x])) = true then cutRun lo hi bits (lastL 16 (s ++ [x])) [] l (acc ++ [b ++ [x]]) else cutRun lo hi bits (lastL 16 (s ++ [x])) (b ++ [x]) l acc
theorem cutRun_append (lo hi bits : Int) : ∀ (l m s b : List Int) (acc : List (List Int)), cutRun lo hi bits s b (l ++ m) acc = cutRun lo hi bits (cutRun lo hi bits s b l acc).2.1 (cutRun lo hi bits s b l acc).2.2 m (cutRun lo hi bits s b l acc).1
  | [], m, s, b, acc => rfl
  | x :: l, m, s, b, acc => by
    simp only [List.cons_append, cutRun]
    split
    · exact cutRun_append lo hi bits l m _ _ _
    · exact cutRun_append lo hi bits l m _ _ _
theorem cutRun_acc (lo hi bits : Int) : ∀ (l s b : List Int) (acc : List (List Int)), cutRun lo hi bits s b l acc = (acc ++ (cutRun lo hi bits s b l []).1, (cutRun lo hi bits s b l []).2)
  | [], s, b, acc => by simp [cutRun]
  | x :: l, s, b, acc => by
    simp only [cutRun]
    split
    · rw [cutRun_acc lo hi bits l _ _ (acc ++ [b ++ [x]]), cutRun_acc lo hi bits l _ _ ([] ++ [b ++ [x]])]; simp
    · exact cutRun_acc lo hi bits l _ _ acc
/-- a measure that may be -/
def mayM (lo hi bits : Int) : Prop := 1 ≤ lo ∧ lo ≤ hi ∧ hi ≤ 1024 ∧ 0 ≤ bits ∧ bits ≤ 16
/-- what waits is less than the most -/
theorem cutRun_wait {lo hi bits : Int} (hm : mayM lo hi bits) : ∀ (l s b : List Int) (acc : List (List Int)), (b.length : Int) < hi → ((cutRun lo hi bits s b l acc).2.2.length : Int) < hi
  | [], s, b, acc, h => h
  | x :: l, s, b, acc, h => by
    simp only [cutRun]
    split
    · exact cutRun_wait hm l _ _ _ (by simp; have := hm.1; have := hm.2.1; omega)
    · rename_i hn
      refine cutRun_wait hm l _ _ _ ?_
      simp only [List.length_append, List.length_singleton]
      rcases Int.lt_or_le ((b.length + 1 : Nat) : Int) hi with h1 | h1
      · exact h1
      · exfalso
        apply hn
        have e : ((b.length + 1 : Nat) : Int) = hi := by omega
        simp only [cutsB, Bool.and_eq_true, Bool.or_eq_true, decide_eq_true_eq]
        exact ⟨by have := hm.2.1; omega, .inl e⟩
/-- what is left is one more, if there is any -/
def opt : List Int → List (List Int)
  | [] => []
  | x :: l => [x :: l]
/-- the end of a run: what waits is a chunk, if there is any -/
def finish (r : List (List Int) × List Int × List Int) : List (List Int) := r.1 ++ opt r.2.2
/-- the chunks of a text -/
def chunksL (lo hi bits : Int) (l : List Int) : List (List Int) := finish (cutRun lo hi bits [] [] l [])
theorem opt_flat (b : List Int) : (opt b).flatten = b := by cases b <;> simp [opt]
theorem opt_mem {b c : List Int} (h : c ∈ opt b) : c = b ∧ b ≠ [] := by cases b <;> simp [opt] at h; exact ⟨h, by simp⟩
theorem opt_len (b : List Int) : (opt b).length ≤ 1 := by cases b <;> simp [opt]
theorem cutRun_flat (lo hi bits : Int) : ∀ (l s b : List Int) (acc : List (List Int)), (cutRun lo hi bits s b l acc).1.flatten ++ (cutRun lo hi bits s b l acc).2.2 = acc.flatten ++ b ++ l
  | [], s, b, acc => by simp [cutRun]
  | x :: l, s, b, acc => by
    simp only [cutRun]
    split
    · rw [cutRun_flat lo hi bits l]; simp
    · rw [cutRun_flat lo hi bits l]; simp
theorem cutRun_lens {lo hi bits : Int} (hm : mayM lo hi bits) : ∀ (l s b : List Int) (acc : List (List Int)), (b.length : Int) < hi → (∀ c ∈ acc, lo ≤ (c.length : Int) ∧ (c.length : Int) ≤ hi) → ∀ c ∈ (cutRun lo hi bits s b l acc).1, lo ≤ (c.length : Int) ∧ (c.length : Int) ≤ hi
  | [], s, b, acc, _, h => h
  | x :: l, s, b, acc, hb, h => by
    simp only [cutRun]
    split
    · rename_i hc
      refine cutRun_lens hm l _ _ _ (by simp; have := hm.1; have := hm.2.1; omega) ?_
      intro c hcm
      rcases List.mem_append.1 hcm with h1 | h1
      · exact h c h1
      · simp at h1
        subst h1
        simp only [cutsB, Bool.and_eq_true, decide_eq_true_eq] at hc
        simp only [List.length_append, List.length_singleton]
        exact ⟨hc.1, by omega⟩
    · rename_i hn
      refine cutRun_lens hm l _ _ _ ?_ h
      simp only [List.length_append, List.length_singleton]
      rcases Int.lt_or_le ((b.length + 1 : Nat) : Int) hi with h1 | h1
      · exact h1
      · exfalso
        apply hn
        have e : ((b.length + 1 : Nat) : Int) = hi := by omega
        simp only [cutsB, Bool.and_eq_true, Bool.or_eq_true, decide_eq_true_eq]
        exact ⟨by have := hm.2.1; omega, .inl e⟩
/-- bytes stay bytes -/
theorem cutRun_bytes (lo hi bits : Int) (p : Int → Prop) : ∀ (l s b : List Int) (acc : List (List Int)), (∀ x ∈ l, p x) → (∀ x ∈ b, p x) → (∀ c ∈ acc, ∀ x ∈ c, p x) → (∀ c ∈ (cutRun lo hi bits s b l acc).1, ∀ x ∈ c, p x) ∧ ∀ x ∈ (cutRun lo hi bits s b l acc).2.2, p x
  | [], s, b, acc, _, hb, ha => ⟨ha, hb⟩
  | x :: l, s, b, acc, hl, hb, ha => by
    have hbx : ∀ y ∈ b ++ [x], p y := fun y hy => (List.mem_append.1 hy).elim (hb y) (fun h => by simp at h; rw [h]; exact hl x (by simp))
    simp only [cutRun]
    split
    · exact cutRun_bytes lo hi bits p l _ _ _ (fun y hy => hl y (by simp [hy])) (by simp) (fun c hc => (List.mem_append.1 hc).elim (ha c) (fun h => by simp at h; rw [h]; exact hbx))
    · exact cutRun_bytes lo hi bits p l _ _ _ (fun y hy => hl y (by simp [hy])) hbx ha
theorem cutRun_len (lo hi bits : Int) : ∀ (l s b : List Int) (acc : List (List Int)), (cutRun lo hi bits s b l acc).1.length ≤ acc.length + l.length
  | [], s, b, acc => by simp [cutRun]
  | x :: l, s, b, acc => by
    simp only [cutRun]
    split
    · have := cutRun_len lo hi bits l (lastL 16 (s ++ [x])) [] (acc ++ [b ++ [x]])
      simp at this ⊢; omega
    · have := cutRun_len lo hi bits l (lastL 16 (s ++ [x])) (b ++ [x]) acc
      simp at this ⊢; omega
theorem chunksL_eq (lo hi bits : Int) (l : List Int) : chunksL lo hi bits l = finish (cutRun lo hi bits [] [] l []) := rfl
theorem chunksL_bytes (lo hi bits : Int) (l : List Int) (p : Int → Prop) (h : ∀ x ∈ l, p x) : ∀ c ∈ chunksL lo hi bits l, ∀ x ∈ c, p x := by
  have hb := cutRun_bytes lo hi bits p l [] [] [] h (by simp) (by simp)
  intro c hc
  rcases List.mem_append.1 hc with hc | hc
  · exact hb.1 c hc
  · rw [(opt_mem hc).1]; exact hb.2
theorem chunksL_len (lo hi bits : Int) (l : List Int) : (chunksL lo hi bits l).length ≤ l.length + 1 := by
  have := cutRun_len lo hi bits l [] [] []
  have h2 := opt_len (cutRun lo hi bits [] [] l []).2.2
  unfold chunksL finish
  simp at this ⊢; omega
theorem chunksL_flat (lo hi bits : Int) (l : List Int) : (chunksL lo hi bits l).flatten = l := by
  have := cutRun_flat lo hi bits l [] [] []
  unfold chunksL finish
  rw [List.flatten_append, opt_flat]
  simpa using this
end Go.Proofs.YtaeobiilihklhaaM

-- F23
namespace Go.Proofs.Ytaeobiilihklhaa.F
open Go.RowKit Go.Proofs.YtaeobiilihklhaaW.PrintWords Go.Proofs.YtaeobiilihklhaaW.PrintLast Go.Proofs.YtaeobiilihklhaaW.PrintMore
attribute [local go_sem] max2_int min2_int max_two min_two max_three min_three max_four min_four   -- for this text's walks alone
set_option linter.unusedVariables false
set_option linter.unusedSimpArgs false

/-! ### chunk_may: function 23 -/
def chunk_may.f (a0_0 : Int) (a0_1 : Int) (a0_2 : Int) : Option (Bool) := if a0_0 ≥ 1 then (if a0_0 ≤ a0_1 then (if a0_1 ≤ 1024 then (if a0_2 ≥ 0 then (some (decide (a0_2 ≤ 16))) else (some false)) else (some false)) else (some false)) else (some false)
set_option maxHeartbeats 8000000 in
set_option maxRecDepth 100000 in
theorem chunk_may.calls (a0_0 : Int) (a0_1 : Int) (a0_2 : Int) (r : Bool) (w : World) (h : chunk_may.f a0_0 a0_1 a0_2 = some r) :
    Calls Try.prog 23 #[.agg #[.int .i64 a0_0, .int .i64 a0_1, .int .i64 a0_2]] w fun e w' => e = .returned (.bool r) ∧ Below w.heap.size w w' := by
  have hu23 := Try.underlying23
  have HB := Aside0.mk (Below.refl w.heap.size w)
  have H : (if a0_0 ≥ 1 then (if a0_0 ≤ a0_1 then (if a0_1 ≤ 1024 then (if a0_2 ≥ 0 then (some (decide (a0_2 ≤ 16))) else (some false)) else (some false)) else (some false)) else (some false)) = some r := h
  clear h
  by_cases c2 : a0_0 ≥ 1
  · rw [if_pos c2] at H
    have c2b0 : decide (1 ≤ a0_0) = true := decide_eq_true c2
    clear c2
    by_cases c3 : a0_0 ≤ a0_1
    · rw [if_pos c3] at H
      have c3b0 : decide (a0_0 ≤ a0_1) = true := decide_eq_true c3
      clear c3
      by_cases c4 : a0_1 ≤ 1024
      · rw [if_pos c4] at H
        have c4b0 : decide (a0_1 ≤ 1024) = true := decide_eq_true c4
        clear c4
        by_cases c5 : a0_2 ≥ 0
        · rw [if_pos c5] at H
          have c5b0 : decide (0 ≤ a0_2) = true := decide_eq_true c5
          clear c5
          obtain rfl := Option.some.inj H
          go_enter Try.func23, Try.ntmps23
          go_wp2_with (first | ((with_reducible refine gate_dst (N := 1) rfl ?_); refine box_event ?hg (N := 1) ?hd (cs := #[.int .i64 a0_0, .int .i64 a0_1, .int .i64 a0_2]) (t := 23) ?hr ?_; (case hd => rfl); (case hg => rfl); (case hr => first | (go_simp; done) | (go_simp; rfl)); intro gb101 hg w6 hbox hb; have n0_ := Aside0.mk (below_step (by repeat (first | (with_reducible first | exact HB.out | apply below_alloc | apply pw_below_drewN | apply below_drew1) | exact HB.out)) hb); have n1_ := Aside0.mk (hbox); have n2_ := Aside0.mk ((by rw [hg]; exact (below_size (by repeat (first | (with_reducible first | exact HB.out | apply below_alloc | apply pw_below_drewN | apply below_drew1) | exact HB.out))) : w.heap.size ≤ gb101)); have n3_ := Aside0.mk ((by rw [hg]; exact (below_size (by repeat (first | (with_reducible first | exact HB.out | apply below_alloc | apply pw_below_drewN | apply below_drew1) | exact HB.out))) : w.heap.size ≤ gb101)); clear HB; have HB := n0_; have BK101 := n1_; have GW101 := n2_; have GE101 := n3_; clear n0_ n1_ n2_ n3_; clear hb hbox hg; have hcz7_0 : w6.cell? ⟨gb101, 0, none⟩ = some (.int .i64 a0_0) := (blk_cell BK101.out 0).trans rfl; have hcz7_1 : w6.cell? ⟨gb101, 1, none⟩ = some (.int .i64 a0_1) := (blk_cell BK101.out 1).trans rfl; have hcz7_2 : w6.cell? ⟨gb101, 2, none⟩ = some (.int .i64 a0_2) := (blk_cell BK101.out 2).trans rfl; have hfz7_0 := blk_frozen BK101.out 0; have hfz7_1 := blk_frozen BK101.out 1; have hfz7_2 := blk_frozen BK101.out 2))
          go_ret
          exact ⟨by first | rfl | (simp [errW_none, errW_some] <;> rfl) | (simp [*, errW_none, errW_some] <;> rfl), by repeat (first | (with_reducible first | exact HB.out | apply below_alloc | apply pw_below_drewN | apply below_drew1 | refine below_set ?_ GE101.out) | exact HB.out)⟩
        · rw [if_neg c5] at H
          have c5b0 : decide (0 ≤ a0_2) = false := decide_eq_false c5
          clear c5
          obtain rfl := Option.some.inj H
          go_enter Try.func23, Try.ntmps23
          go_wp2_with (first | ((with_reducible refine gate_dst (N := 1) rfl ?_); refine box_event ?hg (N := 1) ?hd (cs := #[.int .i64 a0_0, .int .i64 a0_1, .int .i64 a0_2]) (t := 23) ?hr ?_; (case hd => rfl); (case hg => rfl); (case hr => first | (go_simp; done) | (go_simp; rfl)); intro gb101 hg w8 hbox hb; have n0_ := Aside0.mk (below_step (by repeat (first | (with_reducible first | exact HB.out | apply below_alloc | apply pw_below_drewN | apply below_drew1) | exact HB.out)) hb); have n1_ := Aside0.mk (hbox); have n2_ := Aside0.mk ((by rw [hg]; exact (below_size (by repeat (first | (with_reducible first | exact HB.out | apply below_alloc | apply pw_below_drewN | apply below_drew1) | exact HB.out))) : w.heap.size ≤ gb101)); have n3_ := Aside0.mk ((by rw [hg]; exact (below_size (by repeat (first | (with_reducible first | exact HB.out | apply below_alloc | apply pw_below_drewN | apply below_drew1) | exact HB.out))) : w.heap.size ≤ gb101)); clear HB; have HB := n0_; have BK101 := n1_; have GW101 := n2_; have GE101 := n3_; clear n0_ n1_ n2_ n3_; clear hb hbox hg; have hcz9_0 : w8.cell? ⟨gb101, 0, none⟩ = some (.int .i64 a0_0) := (blk_cell BK101.out 0).trans rfl; have hcz9_1 : w8.cell? ⟨gb101, 1, none⟩ = some (.int .i64 a0_1) := (blk_cell BK101.out 1).trans rfl; have hcz9_2 : w8.cell? ⟨gb101, 2, none⟩ = some (.int .i64 a0_2) := (blk_cell BK101.out 2).trans rfl; have hfz9_0 := blk_frozen BK101.out 0; have hfz9_1 := blk_frozen BK101.out 1; have hfz9_2 := blk_frozen BK101.out 2))
          go_ret
          exact ⟨by first | rfl | (simp [errW_none, errW_some] <;> rfl) | (simp [*, errW_none, errW_some] <;> rfl), by repeat (first | (with_reducible first | exact HB.out | apply below_alloc | apply pw_below_drewN | apply below_drew1 | refine below_set ?_ GE101.out) | exact HB.out)⟩
      · rw [if_neg c4] at H
        have c4b0 : decide (a0_1 ≤ 1024) = false := decide_eq_false c4
        clear c4
        obtain rfl := Option.some.inj H
        go_enter Try.func23, Try.ntmps23
        go_wp2_with (first | ((with_reducible refine gate_dst (N := 1) rfl ?_); refine box_event ?hg (N := 1) ?hd (cs := #[.int .i64 a0_0, .int .i64 a0_1, .int .i64 a0_2]) (t := 23) ?hr ?_; (case hd => rfl); (case hg => rfl); (case hr => first | (go_simp; done) | (go_simp; rfl)); intro gb101 hg w10 hbox hb; have n0_ := Aside0.mk (below_step (by repeat (first | (with_reducible first | exact HB.out | apply below_alloc | apply pw_below_drewN | apply below_drew1) | exact HB.out)) hb); have n1_ := Aside0.mk (hbox); have n2_ := Aside0.mk ((by rw [hg]; exact (below_size (by repeat (first | (with_reducible first | exact HB.out | apply below_alloc | apply pw_below_drewN | apply below_drew1) | exact HB.out))) : w.heap.size ≤ gb101)); have n3_ := Aside0.mk ((by rw [hg]; exact (below_size (by repeat (first | (with_reducible first | exact HB.out | apply below_alloc | apply pw_below_drewN | apply below_drew1) | exact HB.out))) : w.heap.size ≤ gb101)); clear HB; have HB := n0_; have BK101 := n1_; have GW101 := n2_; have GE101 := n3_; clear n0_ n1_ n2_ n3_; clear hb hbox hg; have hcz11_0 : w10.cell? ⟨gb101, 0, none⟩ = some (.int .i64 a0_0) := (blk_cell BK101.out 0).trans rfl; have hcz11_1 : w10.cell? ⟨gb101, 1, none⟩ = some (.int .i64 a0_1) := (blk_cell BK101.out 1).trans rfl; have hcz11_2 : w10.cell? ⟨gb101, 2, none⟩ = some (.int .i64 a0_2) := (blk_cell BK101.out 2).trans rfl; have hfz11_0 := blk_frozen BK101.out 0; have hfz11_1 := blk_frozen BK101.out 1; have hfz11_2 := blk_frozen BK101.out 2))
        go_ret
        exact ⟨by first | rfl | (simp [errW_none, errW_some] <;> rfl) | (simp [*, errW_none, errW_some] <;> rfl), by repeat (first | (with_reducible first | exact HB.out | apply below_alloc | apply pw_below_drewN | apply below_drew1 | refine below_set ?_ GE101.out) | exact HB.out)⟩
    · rw [if_neg c3] at H
      have c3b0 : decide (a0_0 ≤ a0_1) = false := decide_eq_false c3
      clear c3
      obtain rfl := Option.some.inj H
      go_enter Try.func23, Try.ntmps23
      go_wp2_with (first | ((with_reducible refine gate_dst (N := 1) rfl ?_); refine box_event ?hg (N := 1) ?hd (cs := #[.int .i64 a0_0, .int .i64 a0_1, .int .i64 a0_2]) (t := 23) ?hr ?_; (case hd => rfl); (case hg => rfl); (case hr => first | (go_simp; done) | (go_simp; rfl)); intro gb101 hg w12 hbox hb; have n0_ := Aside0.mk (below_step (by repeat (first | (with_reducible first | exact HB.out | apply below_alloc | apply pw_below_drewN | apply below_drew1) | exact HB.out)) hb); have n1_ := Aside0.mk (hbox); have n2_ := Aside0.mk ((by rw [hg]; exact (below_size (by repeat (first | (with_reducible first | exact HB.out | apply below_alloc | apply pw_below_drewN | apply below_drew1) | exact HB.out))) : w.heap.size ≤ gb101)); have n3_ := Aside0.mk ((by rw [hg]; exact (below_size (by repeat (first | (with_reducible first | exact HB.out | apply below_alloc | apply pw_below_drewN | apply below_drew1) | exact HB.out))) : w.heap.size ≤ gb101)); clear HB; have HB := n0_; have BK101 := n1_; have GW101 := n2_; have GE101 := n3_; clear n0_ n1_ n2_ n3_; clear hb hbox hg; have hcz13_0 : w12.cell? ⟨gb101, 0, none⟩ = some (.int .i64 a0_0) := (blk_cell BK101.out 0).trans rfl; have hcz13_1 : w12.cell? ⟨gb101, 1, none⟩ = some (.int .i64 a0_1) := (blk_cell BK101.out 1).trans rfl; have hcz13_2 : w12.cell? ⟨gb101, 2, none⟩ = some (.int .i64 a0_2) := (blk_cell BK101.out 2).trans rfl; have hfz13_0 := blk_frozen BK101.out 0; have hfz13_1 := blk_frozen BK101.out 1; have hfz13_2 := blk_frozen BK101.out 2))
      go_ret
      exact ⟨by first | rfl | (simp [errW_none, errW_some] <;> rfl) | (simp [*, errW_none, errW_some] <;> rfl), by repeat (first | (with_reducible first | exact HB.out | apply below_alloc | apply pw_below_drewN | apply below_drew1 | refine below_set ?_ GE101.out) | exact HB.out)⟩
  · rw [if_neg c2] at H
    have c2b0 : decide (1 ≤ a0_0) = false := decide_eq_false c2
    clear c2
    obtain rfl := Option.some.inj H
    go_enter Try.func23, Try.ntmps23
    go_wp2_with (first | ((with_reducible refine gate_dst (N := 1) rfl ?_); refine box_event ?hg (N := 1) ?hd (cs := #[.int .i64 a0_0, .int .i64 a0_1, .int .i64 a0_2]) (t := 23) ?hr ?_; (case hd => rfl); (case hg => rfl); (case hr => first | (go_simp; done) | (go_simp; rfl)); intro gb101 hg w14 hbox hb; have n0_ := Aside0.mk (below_step (by repeat (first | (with_reducible first | exact HB.out | apply below_alloc | apply pw_below_drewN | apply below_drew1) | exact HB.out)) hb); have n1_ := Aside0.mk (hbox); have n2_ := Aside0.mk ((by rw [hg]; exact (below_size (by repeat (first | (with_reducible first | exact HB.out | apply below_alloc | apply pw_below_drewN | apply below_drew1) | exact HB.out))) : w.heap.size ≤ gb101)); have n3_ := Aside0.mk ((by rw [hg]; exact (below_size (by repeat (first | (with_reducible first | exact HB.out | apply below_alloc | apply pw_below_drewN | apply below_drew1) | exact HB.out))) : w.heap.size ≤ gb101)); clear HB; have HB := n0_; have BK101 := n1_; have GW101 := n2_; have GE101 := n3_; clear n0_ n1_ n2_ n3_; clear hb hbox hg; have hcz15_0 : w14.cell? ⟨gb101, 0, none⟩ = some (.int .i64 a0_0) := (blk_cell BK101.out 0).trans rfl; have hcz15_1 : w14.cell? ⟨gb101, 1, none⟩ = some (.int .i64 a0_1) := (blk_cell BK101.out 1).trans rfl; have hcz15_2 : w14.cell? ⟨gb101, 2, none⟩ = some (.int .i64 a0_2) := (blk_cell BK101.out 2).trans rfl; have hfz15_0 := blk_frozen BK101.out 0; have hfz15_1 := blk_frozen BK101.out 1; have hfz15_2 := blk_frozen BK101.out 2))
    go_ret
    exact ⟨by first | rfl | (simp [errW_none, errW_some] <;> rfl) | (simp [*, errW_none, errW_some] <;> rfl), by repeat (first | (with_reducible first | exact HB.out | apply below_alloc | apply pw_below_drewN | apply below_drew1 | refine below_set ?_ GE101.out) | exact HB.out)⟩

-- NOT PRINTED: function 24 (roll_New)

-- NOT PRINTED: function 11 (chunk_New)

end Go.Proofs.Ytaeobiilihklhaa.F

-- F28
namespace Go.Proofs.Ytaeobiilihklhaa.F
open Go.RowKit Go.Proofs.YtaeobiilihklhaaW.PrintWords Go.Proofs.YtaeobiilihklhaaW.PrintLast Go.Proofs.YtaeobiilihklhaaW.PrintMore
attribute [local go_sem] max2_int min2_int max_two min_two max_three min_three max_four min_four   -- for this text's walks alone
set_option linter.unusedVariables false
set_option linter.unusedSimpArgs false

/-! ### chunk_marked: function 28 -/
def chunk_marked.f (a0 : Int) (a1 : Int) : Option (Bool) := if a1 ≤ 0 then (some true) else (if 0 ≤ (wrap64 (32 - (mn a1 32))) then (some ((shr .u32 ((a0 * 2654435761) % 4294967296) (wrap64 (32 - (mn a1 32)))) == 0)) else (none))
set_option maxHeartbeats 8000000 in
set_option maxRecDepth 100000 in
theorem chunk_marked.calls (a0 : Int) (a1 : Int) (r : Bool) (w : World) (h : chunk_marked.f a0 a1 = some r) :
    Calls Try.prog 28 #[.int .u32 a0, .int .i64 a1] w fun e w' => e = .returned (.bool r) ∧ Below w.heap.size w w' := by
  have HB := Aside0.mk (Below.refl w.heap.size w)
  have H : (if a1 ≤ 0 then (some true) else (if 0 ≤ (wrap64 (32 - (mn a1 32))) then (some ((shr .u32 ((a0 * 2654435761) % 4294967296) (wrap64 (32 - (mn a1 32)))) == 0)) else (none))) = some r := h
  clear h
  by_cases c3 : a1 ≤ 0
  · rw [if_pos c3] at H
    have c3b0 : decide (a1 ≤ 0) = true := decide_eq_true c3
    clear c3
    obtain rfl := Option.some.inj H
    go_enter Try.func28, Try.ntmps28
    go_wp2
    go_ret
    exact ⟨by first | rfl | (simp [errW_none, errW_some] <;> rfl) | (simp [*, errW_none, errW_some] <;> rfl), by repeat (first | (with_reducible first | exact HB.out | apply below_alloc | apply pw_below_drewN | apply below_drew1) | exact HB.out)⟩
  · rw [if_neg c3] at H
    have c3b0 : decide (a1 ≤ 0) = false := decide_eq_false c3
    clear c3
    obtain ⟨ji4, hji4⟩ : ∃ j_ : Int, (mn a1 32) = j_ := ⟨_, rfl⟩
    replace H : (if 0 ≤ (wrap64 (32 - (ji4))) then (some ((shr .u32 ((a0 * 2654435761) % 4294967296) (wrap64 (32 - (ji4)))) == 0)) else (none)) = some r := by first | (rw [hji4] at H; exact H) | (simp only [hji4] at H ⊢; exact H)
    (try (have hji4h : ji4 ≤ 32 := by (rw [← hji4]; unfold mn; (repeat' split) <;> omega)))
    (try (have hji4g : ji4 ≤ 64 := by omega))
    have hji4_ : (if 32 < a1 then 32 else a1) = ji4 := hji4
    obtain ⟨ji5, hji5⟩ : ∃ j_ : Int, (wrap64 (32 - (ji4))) = j_ := ⟨_, rfl⟩
    replace H : (if 0 ≤ (ji5) then (some ((shr .u32 ((a0 * 2654435761) % 4294967296) (ji5)) == 0)) else (none)) = some r := by first | (rw [hji5] at H; exact H) | (simp only [hji5] at H ⊢; exact H)
    have hji5w : (IntKind.i64.wrap (32 - (ji4))) = ji5 := (i64_w _).trans hji5
    by_cases c6 : 0 ≤ (ji5)
    · rw [if_pos c6] at H
      have c6b0 := eq_true c6
      have c6b1 : decide (0 ≤ (ji5)) = true := decide_eq_true c6
      clear c6
      obtain ⟨ji7, hji7⟩ : ∃ j_ : Int, (shr .u32 ((a0 * 2654435761) % 4294967296) (ji5)) = j_ := ⟨_, rfl⟩
      replace H : (some ((ji7) == 0)) = some r := by first | (rw [hji7] at H; exact H) | (simp only [hji7] at H ⊢; exact H)
      have hji7_ : (((a0 * 2654435761) % 4294967296) / 2 ^ min (ji5).toNat 32) = ji7 := hji7
      have hji7z : (ji5) ≤ 32 → (((a0 * 2654435761) % 4294967296) / 2 ^ (ji5).toNat) = ji7 := shr_small hji7
      obtain rfl := Option.some.inj H
      go_enter Try.func28, Try.ntmps28
      go_wp2
      go_ret
      exact ⟨by first | rfl | (simp [errW_none, errW_some] <;> rfl) | (simp only [← hji4, ← hji5, ← hji7]; first | rfl | (simp [errW_none, errW_some] <;> rfl)) | (simp [*, errW_none, errW_some] <;> rfl), by repeat (first | (with_reducible first | exact HB.out | apply below_alloc | apply pw_below_drewN | apply below_drew1) | exact HB.out)⟩
    · rw [if_neg c6] at H
      exact absurd H (by simp)

-- NOT PRINTED: function 17 (chunk_Cutter_Write)

-- NOT PRINTED: function 29 (roll_Window_Clear)

-- NOT PRINTED: function 19 (chunk_Cutter_End)

-- NOT PRINTED: function 10 (chunk_Cut)

end Go.Proofs.Ytaeobiilihklhaa.F

-- ChunkC
namespace Go.Proofs.Ytaeobiilihklhaa.F
open Go Go.RowKit Go.Proofs.YtaeobiilihklhaaW.PrintWords Go.Proofs.YtaeobiilihklhaaW.PrintLast Go.Proofs.YtaeobiilihklhaaW.PrintMore Go.Proofs.YtaeobiilihklhaaM Go.Proofs.YtaeobiilihklhaaR
attribute [local go_sem] max2_int min2_int max_two min_two
set_option linter.unusedSimpArgs false
set_option linter.unusedVariables false
set_option maxRecDepth 100000
theorem str_empty (b : List Int) : (strOfNums b).toList.isEmpty = b.isEmpty := by
  rw [ByteArray.toList_eq]
  cases b <;> simp [strOfNums]
instance (lo hi bits : Int) : Decidable (mayM lo hi bits) := by unfold mayM; infer_instance
theorem may_c (lo hi bits : Int) (w : World) : Calls Try.prog 23 #[.agg #[.int .i64 lo, .int .i64 hi, .int .i64 bits]] w (Tells w (Is (.bool (decide (mayM lo hi bits))))) := by
  refine tells_is ((chunk_may.calls lo hi bits _ w ?_).mono fun _ _ ⟨h, k⟩ => ⟨h, k⟩)
  unfold chunk_may.f
  by_cases h : mayM lo hi bits
  · rw [decide_eq_true h]
    obtain ⟨h1, h2, h3, h4, h5⟩ := h
    rw [if_pos h1, if_pos h2, if_pos h3, if_pos h4, decide_eq_true h5]
  · rw [decide_eq_false h]
    unfold mayM at h
    repeat' split
    all_goals first | rfl | (congr 1; exact decide_eq_false (by omega))
theorem marked_f (n bits : Int) (h0 : 0 ≤ n) (h1 : n < 4294967296) : chunk_marked.f n bits = some (markB n bits) := by
  unfold chunk_marked.f markB
  by_cases hb : bits ≤ 0
  · rw [if_pos hb, show min bits.toNat 32 = 0 from by omega]
    congr 1
    symm
    apply decide_eq_true
    have : (n * 2654435761) % 4294967296 < 4294967296 := Int.emod_lt_of_pos _ (by omega)
    simpa using this
  · rw [if_neg hb]
    have e : mn bits 32 = ((min bits.toNat 32 : Nat) : Int) := by unfold mn; split <;> omega
    rw [e]
    obtain ⟨r, hr⟩ : ∃ r, r = min bits.toNat 32 := ⟨_, rfl⟩
    rw [← hr]
    have hr2 : r ≤ 32 := by omega
    rw [show wrap64 (32 - (r : Int)) = ((32 - r : Nat) : Int) from by unfold wrap64; omega, if_pos (by omega)]
    unfold shr
    rw [show min (((32 - r : Nat) : Int)).toNat (IntKind.u32).bits = 32 - r from by simp [IntKind.bits]]
    congr 1
    have hp : (0 : Int) < 2 ^ (32 - r) := by exact Int.pow_pos (by omega)
    have h2 : 0 ≤ (n * 2654435761) % 4294967296 := Int.emod_nonneg _ (by omega)
    generalize (n * 2654435761) % 4294967296 = y at *
    rw [Bool.eq_iff_iff]
    simp only [beq_iff_eq, decide_eq_true_eq]
    constructor
    · intro h
      have := Int.lt_mul_of_ediv_lt (a := y) (b := 1) hp (by omega)
      omega
    · intro h
      exact Int.ediv_eq_zero_of_lt h2 h
theorem marked_c (n bits : Int) (w : World) (h0 : 0 ≤ n) (h1 : n < 4294967296) : Calls Try.prog 28 #[.int .u32 n, .int .i64 bits] w (Tells w (Is (.bool (markB n bits)))) :=
  tells_is ((chunk_marked.calls n bits _ w (marked_f n bits h0 h1)).mono fun _ _ ⟨h, k⟩ => ⟨h, k⟩)
/-- a cutter's blocks, and what it has -/
structure Cut (gc g gb : Nat) (lo hi bits : Int) (s b : List Int) (vb : Value) (B : Nat) (w : World) : Prop where
  n1 : gc ≠ g
  n2 : gc ≠ gb
  n3 : g ≠ gb
  b1 : B ≤ gc
  b2 : B ≤ g
  b3 : B ≤ gb
  cells : Blk w gc 56 [.int .i64 lo, .int .i64 hi, .int .i64 bits, .pointer (some ⟨g, 0, none⟩), vb]
  win : WinB g gb 16 s w
  row : w.ownsRow B 5 1 vb b.length (nums .u8 b)
  far : ∀ k, vb.ownBlock = some k → k ≠ gc ∧ k ≠ g ∧ k ≠ gb
  bytes : ∀ x ∈ b, 0 ≤ x ∧ x < 256
/-- which blocks a cutter may change -/
def CS (gc g gb : Nat) (vb : Value) : Nat → Prop := fun k => k = gc ∨ k = g ∨ k = gb ∨ vb.ownBlock = some k
/-- a cutter, wherever what waits lies by now -/
def CutB (gc g gb : Nat) (lo hi bits : Int) (s b : List Int) (B : Nat) (w0 w : World) (vb : Value) : Prop := ∃ vb', Cut gc g gb lo hi bits s b vb' B w ∧ (∀ k, vb'.ownBlock = some k → vb.ownBlock = some k ∨ w0.heap.size ≤ k)
theorem WinB.lt {g gb size : Nat} {s : List Int} {w : World} (h : WinB g gb size s w) : g < w.heap.size ∧ gb < w.heap.size := by
  obtain ⟨a, b, h⟩ := h
  exact ⟨h.cells.lt, h.row.lt⟩
theorem Cut.grew {gc g gb : Nat} {lo hi bits : Int} {s b : List Int} {vb : Value} {B : Nat} {w w' : World} (h : Cut gc g gb lo hi bits s b vb B w) (hg : Grew w w') : Cut gc g gb lo hi bits s b vb B w' :=
  ⟨h.n1, h.n2, h.n3, h.b1, h.b2, h.b3, h.cells.grew hg, h.win.grew hg, pw_own_below h.row hg, h.far, h.bytes⟩
theorem Cut.upd {gc g gb : Nat} {lo hi bits : Int} {s b : List Int} {vb : Value} {B : Nat} {w w' : World} {S : Nat → Prop} (h : Cut gc g gb lo hi bits s b vb B w) (hu : Upd S w w') (hS : ∀ k, CS gc g gb vb k → ¬ S k) : Cut gc g gb lo hi bits s b vb B w' :=
  ⟨h.n1, h.n2, h.n3, h.b1, h.b2, h.b3, h.cells.upd hu (hS _ (.inl rfl)), h.win.upd hu (hS _ (.inr (.inl rfl))) (hS _ (.inr (.inr (.inl rfl)))), hu.own h.row (fun k hk => hS k (.inr (.inr (.inr hk)))), h.far, h.bytes⟩
def NewCut (B : Nat) (lo hi bits : Int) : World → Value → Prop := fun w' v => ∃ gc g gb, v = .tuple #[.pointer (some ⟨gc, 0, none⟩), .int .i64 0] ∧ Cut gc g gb lo hi bits [] [] (.slice none 0 0) B w'
theorem cnew_c (lo hi bits : Int) (w : World) (hm : mayM lo hi bits) : Calls Try.prog 11 #[.agg #[.int .i64 lo, .int .i64 hi, .int .i64 bits]] w (Tells w (NewCut w.heap.size lo hi bits)) := by
  have d := decide_eq_true hm
  have hc := may_c lo hi bits
  rw [d] at hc
  have HC := Lib.hid hc
  clear hc hm d
  go_enter Try.func11, Try.ntmps11
  go_wp2_with fail
  refine (HC.out _).mono ?_
  rintro e w1 ⟨_, rfl, rfl, hg1⟩
  go_wp2_with fail
  refine (new_c 16 _ (by omega) (by omega)).mono ?_
  rintro e w2 ⟨_, rfl, ⟨g, gb, rfl, hB1, hB2, hne, hwin⟩, hg2⟩
  have hb := (Blk.new w 23 [.int .i64 lo, .int .i64 hi, .int .i64 bits]).grew (Grew.trans hg1 hg2)
  have k0 := hb.at_ 0
  have k1 := hb.at_ 1
  have k2 := hb.at_ 2
  simp only [List.getElem?_cons_succ, List.getElem?_cons_zero] at k0 k1 k2
  have hs1 := hg1.size
  have hs2 := hg2.size
  simp only [World.size_alloc] at hs1
  have hl := hwin.lt
  clear hb
  go_wp2_with fail
  go_ret2
  refine ⟨_, rfl, ⟨w2.heap.size, g, gb, rfl, by omega, by omega, hne, by omega, by omega, by omega, ?_, ?_, own_nil _ _ _ _, fun k hk => by simp [Value.ownBlock] at hk, by simp⟩, (Grew.alloc _ _).trans (hg1.trans (hg2.trans (Grew.alloc _ _)))⟩
  · exact Blk.new w2 _ _
  · exact hwin.grew (Grew.alloc _ _)
theorem cnew_no (lo hi bits : Int) (w : World) (hm : ¬ mayM lo hi bits) : Calls Try.prog 11 #[.agg #[.int .i64 lo, .int .i64 hi, .int .i64 bits]] w (Tells w (Is (.tuple #[.pointer none, .int .i64 1]))) := by
  have d := decide_eq_false hm
  have hc := may_c lo hi bits
  rw [d] at hc
  have HC := Lib.hid hc
  clear hc hm d
  go_enter Try.func11, Try.ntmps11
  go_wp2_with fail
  refine (HC.out _).mono ?_
  rintro e w1 ⟨_, rfl, rfl, hg1⟩
  go_wp2_with fail
  go_ret2
  exact ⟨_, rfl, rfl, (Grew.alloc _ _).trans hg1⟩
theorem left_c {gc g gb : Nat} {lo hi bits : Int} {s b : List Int} {vb : Value} {B : Nat} (w : World) (h : Cut gc g gb lo hi bits s b vb B w) : Calls Try.prog 18 #[.pointer (some ⟨gc, 0, none⟩)] w (Tells w (Is (.int .i64 b.length))) := by
  obtain ⟨A, c, rfl⟩ := own_slice h.row
  have c4 := h.cells.at_ 4
  simp only [List.getElem?_cons_succ, List.getElem?_cons_zero] at c4
  clear h
  go_enter Try.func18, Try.ntmps18
  go_wp2_with fail
  go_ret
  exact ⟨_, rfl, rfl, Grew.refl _⟩
def EndCut (gc g gb : Nat) (lo hi bits : Int) (b : List Int) (vb : Value) (B : Nat) (w : World) : World → Value → Prop := fun w' v => v = .tuple #[.string (strOfNums b), .bool (!b.isEmpty)] ∧ CutB gc g gb lo hi bits [] [] B w w' vb
theorem end_c {gc g gb : Nat} {lo hi bits : Int} {s b : List Int} {vb : Value} {B : Nat} (w : World) (h : Cut gc g gb lo hi bits s b vb B w) : Calls Try.prog 19 #[.pointer (some ⟨gc, 0, none⟩)] w (Does (CS gc g gb vb) w (EndCut gc g gb lo hi bits b vb B w)) := by
  obtain ⟨A, c, rfl, _, hc, hC⟩ := own_C h.row
  have hcv := Kd.C_string (P := Try.prog) (c := c) Try.underlying42 Try.underlying5 Try.underlying9 hC
  have c3 := h.cells.at_ 3
  have c4 := h.cells.at_ 4
  have f4 := h.cells.fz 4
  simp only [List.getElem?_cons_succ, List.getElem?_cons_zero] at c3 c4
  obtain ⟨W1, hW1⟩ : ∃ W1, W1 = w.setCell ⟨gc, 4, none⟩ (.slice A 0 c) := ⟨_, rfl⟩
  have hcl := h.cells.set 4 (.slice A 0 c)
  have hu1 : Upd (CS gc g gb (.slice A b.length c)) w W1 := by rw [hW1]; exact (Upd.refl _ _).set (p := ⟨gc, 4, none⟩) (.inl (.inl rfl)) _
  have hwin := h.win.upd (Upd.set (S := fun k => k = gc) (p := ⟨gc, 4, none⟩) (Upd.refl _ w) (.inl rfl) (.slice A 0 c)) (fun e => h.n1 e.symm) (fun e => h.n2 e.symm)
  have hrow := own_take (m := 0) h.row (by omega)
  have hrow1 := own_setCell hrow (p := ⟨gc, 4, none⟩) (fun e => (h.far gc (by cases A <;> simp [Value.ownBlock] at e ⊢; exact e.symm)).1 rfl) (.slice A 0 c)
  rw [← hW1] at hcl hwin hrow1
  have q3 := hcl.at_ 3
  simp only [List.set_cons_succ, List.set_cons_zero, List.getElem?_cons_succ, List.getElem?_cons_zero] at q3 hcl
  rw [hW1] at q3
  have HW1 := Lib.hid hW1
  have H1 := Lib.hid hcl
  have H2 := Lib.hid hwin
  have H3 := Lib.hid hrow1
  have H := Lib.hid h
  clear hW1 hcl hwin hrow hrow1 h
  go_enter Try.func19, Try.ntmps19
  go_wp2_with fail
  rw [← HW1.out]
  refine (clear_c g gb 16 s _ H2.out).mono ?_
  rintro e w2 ⟨_, rfl, ⟨rfl, hW2⟩, hu2⟩
  go_wp2_with fail
  go_ret2
  have h := H.out
  have hfar := h.far
  have hne : ∀ k, WS g gb k → k = g ∨ k = gb := fun k hk => hk
  refine ⟨_, rfl, ⟨?_, .slice A 0 c, ⟨h.n1, h.n2, h.n3, h.b1, h.b2, h.b3, H1.out.upd hu2 ?_, hW2, hu2.own H3.out ?_, ?_, by simp⟩, ?_⟩, hu1.trans (hu2.mono fun k _ hk => ?_)⟩
  · show Value.tuple #[.string (strOfNums b), .bool (!(strOfNums b).toList.isEmpty)] = _
    rw [str_empty]
  · intro hk; rcases hk with hk | hk; exact h.n1 hk; exact h.n2 hk
  · intro k hk hS
    have := hfar k (by cases A <;> simp [Value.ownBlock] at hk ⊢; exact hk)
    rcases hS with hS | hS
    · exact this.2.1 hS
    · exact this.2.2 hS
  · intro k hk
    exact hfar k (by cases A <;> simp [Value.ownBlock] at hk ⊢; exact hk)
  · intro k hk
    exact .inl (by cases A <;> simp [Value.ownBlock] at hk ⊢; exact hk)
  · rcases hk with hk | hk
    · exact .inr (.inl hk)
    · exact .inr (.inr (.inl hk))
end Go.Proofs.Ytaeobiilihklhaa.F

-- ChunkW
namespace Go.Proofs.Ytaeobiilihklhaa.F
open Go Go.RowKit Go.Proofs.YtaeobiilihklhaaW.PrintWords Go.Proofs.YtaeobiilihklhaaW.PrintLast Go.Proofs.YtaeobiilihklhaaW.PrintMore Go.Proofs.YtaeobiilihklhaaM Go.Proofs.YtaeobiilihklhaaR
attribute [local go_sem] max2_int min2_int max_two min_two
set_option linter.unusedSimpArgs false
set_option linter.unusedVariables false
set_option maxRecDepth 100000
theorem row_cell {w : World} {k : IntKind} {A : Option Addr} {l : List Int} (h : Kd.C (Kd.int k) w A l.length l) (i : Nat) (hi : i < l.length) : ∃ ad, A = some ad ∧ w.cell? (ad.add i) = some (.int k (l.getD i 0)) := by
  obtain ⟨ad, hA, hc⟩ := (reads_of h).at_ (i : Int) (by omega) (by omega)
  exact ⟨ad, hA, by simpa [rd] using hc⟩
theorem WinB.own_far {g gb size : Nat} {s : List Int} {w : World} (h : WinB g gb size s w) {base e sz n : Nat} {v : Value} {xs : List Value} (ho : w.ownsRow base e sz v n xs) (h1 : e ≠ 67) (h2 : e ≠ 5) : ∀ k, v.ownBlock = some k → ¬ WS g gb k := by
  obtain ⟨a, b, h⟩ := h
  rintro k hk (rfl | rfl)
  · exact own_ne ho h.cells h1 hk.symm
  · exact own_ne ho h.row h2 hk.symm
theorem Cut.own_far {gc g gb : Nat} {lo hi bits : Int} {s b : List Int} {vb : Value} {B : Nat} {w : World} (h : Cut gc g gb lo hi bits s b vb B w) {base e sz n : Nat} {v : Value} {xs : List Value} (ho : w.ownsRow base e sz v n xs) (h0 : e ≠ 56) (h1 : e ≠ 67) (h2 : e ≠ 5) : ∀ k, v.ownBlock = some k → ¬ CS gc g gb vb k := by
  rintro k hk (rfl | rfl | rfl | hb)
  · exact own_ne ho h.cells h0 hk.symm
  · exact h.win.own_far ho h1 h2 _ hk (.inl rfl)
  · exact h.win.own_far ho h1 h2 _ hk (.inr rfl)
  · obtain ⟨cells, hcl⟩ := own_typed h.row k hb
    exact own_ne ho hcl h2 hk.symm
/-- texts out of lists of bytes -/
def strs (ls : List (List Int)) : List ByteArray := ls.map strOfNums
/-- what Write returns and leaves -/
def WriteCut (gc g gb : Nat) (lo hi bits : Int) (r : List (List Int) × List Int × List Int) (vb : Value) (B : Nat) (w : World) : World → Value → Prop := fun w' v => w'.ownsRow w.heap.size 9 1 v r.1.length (encs Value.string (strs r.1)) ∧ CutB gc g gb lo hi bits r.2.1 r.2.2 B w w' vb
theorem strs_len (ls : List (List Int)) : (strs ls).length = ls.length := by simp [strs]
set_option maxHeartbeats 4000000 in
theorem write_c {gc g gb : Nat} {lo hi bits : Int} {s b : List Int} {vb : Value} {B : Nat} (w : World) (A : Option Addr) (c : Nat) (l : List Int) (h : Cut gc g gb lo hi bits s b vb B w) (hm : mayM lo hi bits) (hbl : (b.length : Int) < hi) (hBw : B ≤ w.heap.size)
    (hr : ∀ w', Upd (CS gc g gb vb) w w' → Kd.C (Kd.int .u8) w' A l.length l) (hc : l.length ≤ c) (hl : l.length ≤ 100000) (hb : ∀ x ∈ l, 0 ≤ x ∧ x < 256) :
    Calls Try.prog 17 #[.pointer (some ⟨gc, 0, none⟩), .slice A l.length c] w (Does (CS gc g gb vb) w (WriteCut gc g gb lo hi bits (cutRun lo hi bits s b l []) vb B w)) := by
  obtain ⟨res, hres⟩ : ∃ res, res = cutRun lo hi bits s b l [] := ⟨_, rfl⟩
  rw [← hres]
  have HRes := Lib.hid hres
  have HR := Lib.hid hr
  have HB := Lib.hid hb
  have HM := Lib.hid hm
  clear hres hr hb
  go_enter Try.func17, Try.ntmps17
  go_wp2_with fail
  go_loopw [5, 15] (fun v iv wr => ∃ (pre suf s' b' : List Int) (acc : List (List Int)) (vb' v5 : Value), v = v5 ∧ l = pre ++ suf ∧ iv = .int .i64 (pre.length : Int) ∧ res = cutRun lo hi bits s' b' suf acc ∧ (b'.length : Int) < hi ∧ acc.length ≤ pre.length ∧ wr.ownsRow w.heap.size 9 1 v5 acc.length (encs Value.string (strs acc)) ∧ Cut gc g gb lo hi bits s' b' vb' B wr ∧ (∀ k, vb'.ownBlock = some k → vb.ownBlock = some k ∨ w.heap.size ≤ k) ∧ Upd (CS gc g gb vb) w wr) (fun _ iv _ => l.length - (intOf iv).toNat)
  case atStart => exact ⟨[], l, s, b, [], vb, _, rfl, rfl, rfl, HRes.out, hbl, by simp, own_nil _ _ _ _, h, fun k hk => .inl hk, Upd.refl _ _⟩
  case round =>
    obtain ⟨pre, suf, s', b', acc, vb', v5, rfl, hp, rfl, hre, hbl', hacc, hown, hcut, hfresh, hu⟩ := hrel
    rcases suf with _ | ⟨x, suf⟩
    · have hlen : l.length = pre.length := by rw [hp]; simp
      have d2 : decide (pre.length < l.length) = false := decide_eq_false (by omega)
      clear hp hlen
      go_wp2_with fail
      go_ret
      simp only [cutRun] at hre
      subst hre
      exact ⟨_, rfl, ⟨hown, vb', hcut, hfresh⟩, hu⟩
    · have hlen : l.length = pre.length + suf.length + 1 := by rw [hp]; simp; omega
      have hlt : pre.length < l.length := by omega
      have d2 : decide (pre.length < l.length) = true := decide_eq_true hlt
      have hx : l.getD pre.length 0 = x := by rw [hp]; simp [List.getD]
      have hxb := HB.out x (by rw [hp]; simp)
      obtain ⟨ad, hA, -⟩ := row_cell (HR.out wr hu) pre.length hlt
      have hcell : ∀ w', Upd (CS gc g gb vb) w w' → w'.cell? (ad.add pre.length) = some (.int .u8 x) := fun w' hu' => by
        obtain ⟨ad', hA', hc⟩ := row_cell (HR.out w' hu') pre.length hlt
        rw [hA] at hA'
        obtain rfl := Option.some.inj hA'
        rw [hc, hx]
      subst hA
      have HC := Lib.hid hcell
      have HP := Lib.hid hp
      have HRe := Lib.hid hre
      have C3 := Lib.hid (hcut.cells.at_ 3)
      clear hcell hp hre hlen hx
      go_wp2_with fail
      apply region_grew [Is _, Is _, Is _, Is _, Is _, Is _, Is _, Is _] [([(0, none)], none), ([(18, some 0)], none), ([(19, some 1)], none), ([(20, some 2)], none), ([(1, none)], none), ([(6, none)], none), ([(22, some 4), (23, some 5)], none), ([(24, some 6)], none)] [(18, 0), (19, 1), (20, 2), (21, 3), (22, 4), (23, 5), (24, 6), (25, 7)] rfl (by kernel_rfl) (by kernel_rfl) (show Stable Grew _ from ⟨Is.stable _, Is.stable _, Is.stable _, Is.stable _, Is.stable _, Is.stable _, Is.stable _, Is.stable _, trivial⟩)
      · show OpsHold _ _ _ _ _ _ _ _ _
        refine ⟨fun a_ wx hR hD K hK => ?_, ?_⟩
        · have hG : Grew wr wx := (Grew.drew _).trans hR
          simp [Deps, Dep, at_, Is] at hD
          go_simp
          exact hK _ _ (Grew.refl _) rfl
        refine ⟨fun a_ wx hR hD K hK => ?_, ?_⟩
        · have hG : Grew wr wx := (Grew.drew _).trans hR
          simp [Deps, Dep, at_, Is] at hD
          go_simp
          exact hK _ _ (Grew.refl _) rfl
        refine ⟨fun a_ wx hR hD K hK => ?_, ?_⟩
        · have hG : Grew wr wx := (Grew.drew _).trans hR
          simp [Deps, Dep, at_, Is] at hD
          go_simp
          exact hK _ _ (Grew.refl _) rfl
        refine ⟨fun a_ wx hR hD K hK => ?_, ?_⟩
        · have hG : Grew wr wx := (Grew.drew _).trans hR
          simp [Deps, Dep, at_, Is] at hD
          have e_ := pw_cell_below hG C3.out
          go_simp
          exact hK _ _ (Grew.refl _) rfl
        refine ⟨fun a_ wx hR hD K hK => ?_, ?_⟩
        · have hG : Grew wr wx := (Grew.drew _).trans hR
          simp [Deps, Dep, at_, Is] at hD
          go_simp
          exact hK _ _ (Grew.refl _) rfl
        refine ⟨fun a_ wx hR hD K hK => ?_, ?_⟩
        · have hG : Grew wr wx := (Grew.drew _).trans hR
          simp [Deps, Dep, at_, Is] at hD
          go_simp
          exact hK _ _ (Grew.refl _) rfl
        refine ⟨fun a_ wx hR hD K hK => ?_, ?_⟩
        · have hG : Grew wr wx := (Grew.drew _).trans hR
          simp [Deps, Dep, at_, Is] at hD
          obtain ⟨hd0, hd1⟩ := hD
          go_simp
          exact hK _ _ (Grew.refl _) rfl
        refine ⟨fun a_ wx hR hD K hK => ?_, ?_⟩
        · have hG : Grew wr wx := (Grew.drew _).trans hR
          simp [Deps, Dep, at_, Is] at hD
          have e_ := HC.out wx (hu.trans (Upd.of_grew hG))
          go_simp
          exact hK _ _ (Grew.refl _) rfl
        trivial
      · show EndHold _ _ _ _ _ _ _
        refine end_all (xs := [_, _, _, _, _, _, _, _]) ⟨rfl, rfl, rfl, rfl, rfl, rfl, rfl, rfl, trivial⟩ ?_
        rintro w2 hR1 -
        refine ⟨?_⟩
        have hG_w2 : Grew wr w2 := (Grew.drew _).trans hR1
        clear hR1
        simp only [Act.put, List.setIfInBounds_toArray, List.set_cons_succ, List.set_cons_zero, dropN, putEach]
        have hcut2 := hcut.grew hG_w2
        have hu2 := hu.trans (Upd.of_grew hG_w2)
        have hown2 := pw_own_below hown hG_w2
        go_wp2_with fail
        refine (put_c g gb 16 s' x hxb _ hcut2.win).mono ?_
        rintro e w3 ⟨_, rfl, ⟨rfl, hW3⟩, hu3⟩
        have hn3 : ¬ WS g gb gc := fun hk => hk.elim hcut.n1 hcut.n2
        have hcl3 := hcut2.cells.upd hu3 hn3
        have hrow3 := hu3.own hcut2.row (fun k hk hS => hS.elim (hcut.far k hk).2.1 (hcut.far k hk).2.2)
        have hown3 := hu3.own hown2 (hcut2.win.own_far hown2 (by decide) (by decide))
        have hu3' : Upd (CS gc g gb vb) w w3 := hu2.trans (hu3.mono fun k _ hk => hk.elim (fun h => .inr (.inl h)) (fun h => .inr (.inr (.inl h))))
        obtain ⟨s3, hs3⟩ : ∃ s3, s3 = lastL 16 (s' ++ [x]) := ⟨_, rfl⟩
        rw [← hs3] at hW3
        obtain ⟨Ab, cb, rfl⟩ := own_slice hcut.row
        have hlb := own_lt hrow3
        have hbb := own_base hrow3
        have HS3 := Lib.hid hs3
        have C4 := Lib.hid (hcl3.at_ 4)
        have HO3 := Lib.hid hrow3
        have HCl := Lib.hid hcl3
        have hB3 : B ≤ w3.heap.size := Nat.le_trans hBw hu3'.size
        have hm3 : hi ≤ 1024 := hm.2.2.1
        clear hs3 hrow3 hcl3 hcut2 hu2 hown2 hu3
        go_wp2_with fail
        apply region_big (fun w w' => w.grownBy w' (Value.slice Ab b'.length cb).ownBlock) [.float, .plain, .plain, .plain, .plain, .plain, .plain, .plain, .plain, .plain, .big] [Is _, Is _, Is _, Is _, Is _, Is _, Is _, Is _, Is _, One 5 (.int .u8 x) (.slice Ab b'.length cb), AppV B 5 (nums .u8 (b' ++ [x])) (b'.length + 1) (.slice Ab b'.length cb) w3.heap.size] [([(0, none)], none), ([(0, none)], none), ([(28, some 1)], none), ([(29, some 2)], none), ([(30, some 3)], none), ([(1, none)], none), ([(6, none)], none), ([(32, some 5), (33, some 6)], none), ([(34, some 7)], none), ([(35, some 8)], none), ([(31, some 4), (36, some 9)], none)] [(36, 9), (37, 10), (27, 0), (28, 1), (29, 2), (30, 3), (31, 4), (32, 5), (33, 6), (34, 7), (35, 8)] rfl (by kernel_rfl) (by kernel_rfl) (by kernel_rfl) (by kernel_rfl) rfl (show StableB Grew _ _ _ from ⟨(fun _ => Is.stableB _), (fun _ => Is.stableB _), (fun _ => Is.stableB _), (fun _ => Is.stableB _), (fun _ => Is.stableB _), (fun _ => Is.stableB _), (fun _ => Is.stableB _), (fun _ => Is.stableB _), (fun _ => Is.stableB _), (fun _ => One.stableB _ _ _), (fun h_ => absurd rfl h_), trivial⟩)
        · show PhHold _ _ _ _ _ _ _ _ _ _ _
          refine ⟨fun a_ wx hD K hK => ?_, ?_⟩
          · have hF_ := True.intro
            simp [Deps, Dep, at_, Is] at hD
            go_simp
            exact hK _ _ rfl rfl
          refine ⟨fun a_ wx hR hD K hK => ?_, ?_⟩
          · have hG : Grew w3 wx := (Grew.drew _).trans hR
            simp [Deps, Dep, at_, Is] at hD
            go_simp
            exact hK _ _ (Grew.refl _) rfl
          refine ⟨fun a_ wx hR hD K hK => ?_, ?_⟩
          · have hG : Grew w3 wx := (Grew.drew _).trans hR
            simp [Deps, Dep, at_, Is] at hD
            go_simp
            exact hK _ _ (Grew.refl _) rfl
          refine ⟨fun a_ wx hR hD K hK => ?_, ?_⟩
          · have hG : Grew w3 wx := (Grew.drew _).trans hR
            simp [Deps, Dep, at_, Is] at hD
            go_simp
            exact hK _ _ (Grew.refl _) rfl
          refine ⟨fun a_ wx hR hD K hK => ?_, ?_⟩
          · have hG : Grew w3 wx := (Grew.drew _).trans hR
            simp [Deps, Dep, at_, Is] at hD
            have e_ := pw_cell_below hG C4.out
            go_simp
            exact hK _ _ (Grew.refl _) rfl
          refine ⟨fun a_ wx hR hD K hK => ?_, ?_⟩
          · have hG : Grew w3 wx := (Grew.drew _).trans hR
            simp [Deps, Dep, at_, Is] at hD
            go_simp
            exact hK _ _ (Grew.refl _) rfl
          refine ⟨fun a_ wx hR hD K hK => ?_, ?_⟩
          · have hG : Grew w3 wx := (Grew.drew _).trans hR
            simp [Deps, Dep, at_, Is] at hD
            go_simp
            exact hK _ _ (Grew.refl _) rfl
          refine ⟨fun a_ wx hR hD K hK => ?_, ?_⟩
          · have hG : Grew w3 wx := (Grew.drew _).trans hR
            simp [Deps, Dep, at_, Is] at hD
            obtain ⟨hd0, hd1⟩ := hD
            go_simp
            exact hK _ _ (Grew.refl _) rfl
          refine ⟨fun a_ wx hR hD K hK => ?_, ?_⟩
          · have hG : Grew w3 wx := (Grew.drew _).trans hR
            simp [Deps, Dep, at_, Is] at hD
            have e_ := HC.out wx (hu3'.trans (Upd.of_grew hG))
            go_simp
            exact hK _ _ (Grew.refl _) rfl
          refine ⟨fun a_ wx hR hD K hK => ?_, ?_⟩
          · have hG : Grew w3 wx := (Grew.drew _).trans hR
            simp [Deps, Dep, at_, Is] at hD
            go_simp
            exact hK _ _ (Grew.alloc _ _) (One.new (fun k hk => Nat.lt_of_lt_of_le (hlb k hk) hG.size))
          refine ⟨⟨rfl, fun a_ wx hR hD K hK => ?_⟩, ?_⟩
          · have hG : Grew w3 wx := (Grew.drew _).trans hR
            simp [Deps, Dep, at_, Is] at hD
            obtain ⟨hd0, hd1⟩ := hD
            obtain ⟨g1, h1, h2, h3⟩ := hd1
            obtain ⟨v1, wy, hrun, hown1, hgr1, hat1⟩ := app_num (P := Try.prog) (k := .u8) wx B 42 5 42 1 Try.underlying42 info5 (by decide) _ b' [x] _ 1 1 (pw_own_below HO3.out hG) (h2.reads (by simp)) (Nat.le_trans hB3 hG.size) (by simp; omega)
            exact wp_app (.tmp 31) (.tmp 36) 42 rfl (eval_tmp hd0) (eval_tmp h1) hrun (hK _ _ hgr1 ⟨by rw [show b'.length + 1 = (b' ++ [x]).length from by simp]; exact hown1, hat1.imp id (fun h => ⟨_, h, hG.size⟩)⟩)
          trivial
        · show EndHold _ _ _ _ _ _ _
          intro v36
          intro v37
          refine end_all (xs := [_, _, _, _, _, _, _, _, _]) ⟨rfl, rfl, rfl, rfl, rfl, rfl, rfl, rfl, rfl, trivial⟩ ?_
          rintro w4 hR1 ⟨⟨-, hOne⟩, hApp⟩
          refine ⟨?_⟩
          obtain ⟨wm_w4, hRm, hP_w4⟩ := hR1
          have hG_w4 : Grew w3 wm_w4 := (Grew.drew _).trans hRm
          clear hRm
          simp only [Act.put, List.setIfInBounds_toArray, List.set_cons_succ, List.set_cons_zero, dropN, putEach]
          obtain ⟨hro, hat⟩ := hApp
          obtain ⟨gv, cap, rfl, hgv1, hgv2, hgv3⟩ := own_head hro (by omega)
          have hu4 : Upd (fun k => (Value.slice Ab b'.length cb).ownBlock = some k) w3 w4 := (Upd.of_grew hG_w4).grown hP_w4 (fun k hk => .inl hk)
          have hfar := hcut.far
          have hl3 := hW3.lt
          have hlc := HCl.out.lt
          have hgf : gv ≠ gc ∧ gv ≠ g ∧ gv ≠ gb := by
            rcases hat with h | ⟨k, h, hk⟩
            · exact hfar gv h.symm
            · have : gv = k := by simpa [Value.ownBlock] using h
              omega
          have hcl4 := HCl.out.upd hu4 (fun hk => (hfar gc hk).1 rfl)
          have hW4 := hW3.upd hu4 (fun hk => (hfar g hk).2.1 rfl) (fun hk => (hfar gb hk).2.2 rfl)
          have hown4 := hu4.own hown3 (fun k hk hk2 => by
            rcases own_type_ne hown3 HO3.out (by decide) with h | h
            · rw [h] at hk; cases hk
            · exact h (hk.trans hk2.symm))
          have hu4' : Upd (CS gc g gb vb) w w4 := hu3'.then_ hu4 (fun k hk hk2 => (hfresh k hk2).elim (fun h => .inr (.inr (.inr h))) (fun h => by omega))
          have hfr4 : ∀ k, (Value.slice (some ⟨gv, 0, none⟩) (b'.length + 1) cap).ownBlock = some k → vb.ownBlock = some k ∨ w.heap.size ≤ k := fun k hk => by
            rcases hat with h | ⟨k', h, hk'⟩
            · exact hfresh k (h.symm.trans hk)
            · rw [h] at hk
              obtain rfl := Option.some.inj hk
              exact .inr (Nat.le_trans hu3'.size hk')
          obtain ⟨W5, hW5⟩ : ∃ W5, W5 = w4.setCell ⟨gc, 4, none⟩ (.slice (some ⟨gv, 0, none⟩) (b'.length + 1) cap) := ⟨_, rfl⟩
          have hcl5 := hcl4.set 4 (.slice (some ⟨gv, 0, none⟩) (b'.length + 1) cap)
          have hsu : Upd (fun k => k = gc) w4 (w4.setCell ⟨gc, 4, none⟩ (.slice (some ⟨gv, 0, none⟩) (b'.length + 1) cap)) := Upd.set (S := fun k => k = gc) (p := ⟨gc, 4, none⟩) (Upd.refl _ _) (.inl rfl) _
          have hW5' := hW4.upd hsu (fun h => hcut.n1 h.symm) (fun h => hcut.n2 h.symm)
          have hrow5 := hsu.own hro (fun k hk h => by
            have : gv = k := by simpa [Value.ownBlock] using hk
            omega)
          have hown5 := hsu.own hown4 (fun k hk h => by subst h; exact own_ne hown4 hcl4 (by decide) hk.symm)
          have hu5 : Upd (CS gc g gb vb) w (w4.setCell ⟨gc, 4, none⟩ (.slice (some ⟨gv, 0, none⟩) (b'.length + 1) cap)) := hu4'.trans (hsu.mono fun k _ h => .inl h)
          have q4 := hcl4.at_ 4
          have f4 := hcl4.fz 4
          simp only [List.set_cons_succ, List.set_cons_zero, List.getElem?_cons_succ, List.getElem?_cons_zero] at q4 hcl5
          have hcut5 : Cut gc g gb lo hi bits s3 (b' ++ [x]) (.slice (some ⟨gv, 0, none⟩) (b'.length + 1) cap) B (w4.setCell ⟨gc, 4, none⟩ (.slice (some ⟨gv, 0, none⟩) (b'.length + 1) cap)) :=
            ⟨hcut.n1, hcut.n2, hcut.n3, hcut.b1, hcut.b2, hcut.b3, hcl5, hW5', by rw [show (b' ++ [x]).length = b'.length + 1 from by simp]; exact hrow5, fun k hk => by
              have : gv = k := by simpa [Value.ownBlock] using hk
              omega, fun y hy => (List.mem_append.1 hy).elim (hcut.bytes y) (fun h => by simp at h; subst h; exact hxb)⟩
          have z0 := hcl5.at_ 0
          have z4 := hcl5.at_ 4
          simp only [List.getElem?_cons_succ, List.getElem?_cons_zero] at z0 z4
          rw [← hW5] at hcut5 hown5 hu5 hcl5
          have HW5 := Lib.hid hW5
          have D1 := Lib.hid (hcl5.at_ 1)
          have D2 := Lib.hid (hcl5.at_ 2)
          have D3 := Lib.hid (hcl5.at_ 3)
          have F4 := Lib.hid (hcl5.fz 4)
          have D4 := Lib.hid (hcl5.at_ 4)
          have Hown5 := Lib.hid hown5
          have hpl : (b'.length : Int) + 1 ≤ 1024 := by omega
          clear hW5 hcl5 hcl4 hW3 hW4 hown3 hown4 hu4 hu4' hsu hW5' hrow5 hown5 hro hat hu3' hlb hbb hP_w4 hG_w4
          by_cases hlo : (b'.length : Int) + 1 < lo
          · have hcb : cutsB lo hi bits (b'.length + 1) s3 = false := by
              simp only [cutsB, Bool.and_eq_false_iff]
              exact .inl (decide_eq_false (by omega))
            go_wp2_with fail
            rw [← HW5.out]
            go_roundw
            case rel =>
              refine ⟨pre ++ [x], suf, s3, b' ++ [x], acc, _, _, rfl, by rw [HP.out]; simp, by simp, ?_, ?_, by simp; omega, Hown5.out, hcut5, hfr4, hu5⟩
              · rw [HRe.out]; simp only [cutRun]; rw [← HS3.out, if_neg (by rw [hcb]; simp)]
              · simp only [List.length_append, List.length_singleton]
                have := hm.2.1
                omega
            case measure => simp [intOf]; omega
          · have z3 := D3.out
            rw [HW5.out] at z3
            simp only [List.getElem?_cons_succ, List.getElem?_cons_zero] at z3
            go_wp2_with fail
            rw [← HW5.out]
            refine (wsum_c g gb 16 s3 _ hcut5.win).mono ?_
            rintro e w6 ⟨_, rfl, rfl, hg6⟩
            have hcut6 := hcut5.grew hg6
            have hown6 := pw_own_below Hown5.out hg6
            have hu6 := hu5.trans (Upd.of_grew hg6)
            have e0 := hcut6.cells.at_ 0
            have e1 := hcut6.cells.at_ 1
            have e2 := hcut6.cells.at_ 2
            simp only [List.getElem?_cons_succ, List.getElem?_cons_zero] at e0 e1 e2
            clear hcut5 hu5 Hown5 D1 D2 D3 D4 F4 z0 z3 z4 q4 f4
            by_cases hhi : (b'.length : Int) + 1 = hi
            · have d5 : ((b'.length : Int) + 1 == hi) = true := by simpa using hhi
              have hhi' := Lib.hid hhi
              clear hhi
              have hcb : cutsB lo hi bits (b'.length + 1) s3 = true := by
                simp only [cutsB, Bool.and_eq_true, Bool.or_eq_true]
                exact ⟨decide_eq_true (by omega), .inl (decide_eq_true (by have := hhi'.out; omega))⟩
              obtain ⟨Av, cv, hv, _, hcv1, hCv⟩ := own_C (hcut6.row)
              obtain ⟨rfl, -, rfl⟩ := Value.slice.inj hv
              clear hv
              have hcv := Kd.C_string (P := Try.prog) (c := cap) Try.underlying42 Try.underlying5 Try.underlying9 hCv
              rw [show (b' ++ [x]).length = b'.length + 1 from by simp] at hcv
              have e4 := hcut6.cells.at_ 4
              simp only [List.getElem?_cons_succ, List.getElem?_cons_zero] at e4
              clear hCv
              obtain ⟨vn, wn, hrn, hown8, hgr8, hat8⟩ := app_row (P := Try.prog) Value.string ByteArray.empty (fun _ => rfl) (w6.alloc (.cells #[.string (strOfNums (b' ++ [x]))] 9)) w.heap.size 25 9 25 (.string ⟨#[]⟩) 16 Try.underlying25 info9 rfl (by decide) _ (strs acc) [strOfNums (b' ++ [x])] _ 1 1 (by rw [strs_len]; exact hown6.alloc _) ((Blk.new w6 9 (encs Value.string [strOfNums (b' ++ [x])])).reads_of (by simp)) (by have := hu6.size; simp; omega) (by rw [strs_len]; omega)
              have hU8 := Upd.of_alloc_grown hgr8
              have hfar6 := hcut6.own_far hown6 (by decide) (by decide) (by decide)
              have hcut8 := hcut6.upd hU8 (fun k hk h => hfar6 k h hk)
              have hu8 : Upd (CS gc g gb vb) w wn := hu6.then_ hU8 (fun k hk h => by have := own_base hown6 k h; omega)
              have g0 := hcut8.cells.at_ 4
              have g1 := hcut8.cells.fz 4
              simp only [List.getElem?_cons_succ, List.getElem?_cons_zero] at g0
              have hw0 := hcut8.cells.set 4 (.slice (some ⟨gv, 0, none⟩) 0 cap)
              have hsu9 : Upd (fun k => k = gc) wn (wn.setCell ⟨gc, 4, none⟩ (.slice (some ⟨gv, 0, none⟩) 0 cap)) := Upd.set (S := fun k => k = gc) (p := ⟨gc, 4, none⟩) (Upd.refl _ _) (.inl rfl) _
              have hW9 := hcut8.win.upd hsu9 (fun h => hcut.n1 h.symm) (fun h => hcut.n2 h.symm)
              have hr8 := hcut8.row
              rw [show (b' ++ [x]).length = b'.length + 1 from by simp] at hr8
              have hro9 := own_take (m := 0) (hsu9.own hr8 (fun k hk h => (hcut8.far k hk).1 h)) (by omega)
              have hown9 := hsu9.own hown8 (fun k hk h => by subst h; exact own_ne hown8 hcut8.cells (by decide) hk.symm)
              simp only [List.set_cons_succ, List.set_cons_zero] at hw0
              have hcut9 : Cut gc g gb lo hi bits s3 [] (.slice (some ⟨gv, 0, none⟩) 0 cap) B (wn.setCell ⟨gc, 4, none⟩ (.slice (some ⟨gv, 0, none⟩) 0 cap)) :=
                ⟨hcut.n1, hcut.n2, hcut.n3, hcut.b1, hcut.b2, hcut.b3, hw0, hW9, by simpa [nums] using hro9, fun k hk => hcut8.far k (by simpa [Value.ownBlock] using hk), by simp⟩
              have hu9 : Upd (CS gc g gb vb) w (wn.setCell ⟨gc, 4, none⟩ (.slice (some ⟨gv, 0, none⟩) 0 cap)) := hu8.trans (hsu9.mono fun k _ h => .inl h)
              have hfr9 : ∀ k, (Value.slice (some ⟨gv, 0, none⟩) 0 cap).ownBlock = some k → vb.ownBlock = some k ∨ w.heap.size ≤ k := fun k hk => hfr4 k (by simpa [Value.ownBlock] using hk)
              have Hown9 := Lib.hid hown9
              clear hown9 hown8 hgr8 hU8 hfar6 hcut8 hw0 hsu9 hW9 hro9 hr8 hcut6 hown6 hu6 hu8
              go_wp2_with (at_builtin; refine wpList_app (by rfl) (.tmp 76) (.tmp 82) 25 (by rfl) (by rfl) (by rfl) hrn ?_)
              go_roundw
              case rel =>
                refine ⟨pre ++ [x], suf, s3, [], acc ++ [b' ++ [x]], _, _, rfl, by rw [HP.out]; simp, by simp, ?_, ?_, by simp; omega, ?_, hcut9, hfr9, hu9⟩
                · rw [HRe.out]; simp only [cutRun]; rw [← HS3.out, if_pos hcb]
                · have := hm.1; have := hm.2.1; simp; omega
                · have := Hown9.out
                  rw [List.length_append, strs_len] at this
                  simpa [strs] using this
              case measure => simp [intOf]; omega
            · have d5 : ((b'.length : Int) + 1 == hi) = false := by simpa using hhi
              have hhi2 : (b'.length : Int) + 1 < hi := by omega
              clear hhi
              have hwr := weak_range s3
              go_wp2_with fail
              refine (marked_c (weak s3) bits _ hwr.1 hwr.2).mono ?_
              rintro e w7 ⟨_, rfl, rfl, hg7⟩
              replace hcut6 := hcut6.grew hg7
              replace hown6 := pw_own_below hown6 hg7
              replace hu6 := hu6.trans (Upd.of_grew hg7)
              clear e0 e1 e2
              cases hmk : markB (weak s3) bits
              · have hcb : cutsB lo hi bits (b'.length + 1) s3 = false := by
                  simp only [cutsB, Bool.and_eq_false_iff, Bool.or_eq_false_iff]
                  exact .inr ⟨decide_eq_false (by omega), hmk⟩
                go_wp2_with fail
                go_roundw
                case rel =>
                  refine ⟨pre ++ [x], suf, s3, b' ++ [x], acc, _, _, rfl, by rw [HP.out]; simp, by simp, ?_, ?_, by simp; omega, hown6, hcut6, hfr4, hu6⟩
                  · rw [HRe.out]; simp only [cutRun]; rw [← HS3.out, if_neg (by rw [hcb]; simp)]
                  · simp only [List.length_append, List.length_singleton]; omega
                case measure => simp [intOf]; omega
              · obtain ⟨w6, rfl⟩ : ∃ wz : World, wz = w7 := ⟨_, rfl⟩
                have hcb : cutsB lo hi bits (b'.length + 1) s3 = true := by
                  simp only [cutsB, Bool.and_eq_true, Bool.or_eq_true]
                  exact ⟨decide_eq_true (by omega), .inr hmk⟩
                obtain ⟨Av, cv, hv, _, hcv1, hCv⟩ := own_C (hcut6.row)
                obtain ⟨rfl, -, rfl⟩ := Value.slice.inj hv
                clear hv
                have hcv := Kd.C_string (P := Try.prog) (c := cap) Try.underlying42 Try.underlying5 Try.underlying9 hCv
                rw [show (b' ++ [x]).length = b'.length + 1 from by simp] at hcv
                have e4 := hcut6.cells.at_ 4
                simp only [List.getElem?_cons_succ, List.getElem?_cons_zero] at e4
                clear hCv
                obtain ⟨vn, wn, hrn, hown8, hgr8, hat8⟩ := app_row (P := Try.prog) Value.string ByteArray.empty (fun _ => rfl) (w6.alloc (.cells #[.string (strOfNums (b' ++ [x]))] 9)) w.heap.size 25 9 25 (.string ⟨#[]⟩) 16 Try.underlying25 info9 rfl (by decide) _ (strs acc) [strOfNums (b' ++ [x])] _ 1 1 (by rw [strs_len]; exact hown6.alloc _) ((Blk.new w6 9 (encs Value.string [strOfNums (b' ++ [x])])).reads_of (by simp)) (by have := hu6.size; simp; omega) (by rw [strs_len]; omega)
                have hU8 := Upd.of_alloc_grown hgr8
                have hfar6 := hcut6.own_far hown6 (by decide) (by decide) (by decide)
                have hcut8 := hcut6.upd hU8 (fun k hk h => hfar6 k h hk)
                have hu8 : Upd (CS gc g gb vb) w wn := hu6.then_ hU8 (fun k hk h => by have := own_base hown6 k h; omega)
                have g0 := hcut8.cells.at_ 4
                have g1 := hcut8.cells.fz 4
                simp only [List.getElem?_cons_succ, List.getElem?_cons_zero] at g0
                have hw0 := hcut8.cells.set 4 (.slice (some ⟨gv, 0, none⟩) 0 cap)
                have hsu9 : Upd (fun k => k = gc) wn (wn.setCell ⟨gc, 4, none⟩ (.slice (some ⟨gv, 0, none⟩) 0 cap)) := Upd.set (S := fun k => k = gc) (p := ⟨gc, 4, none⟩) (Upd.refl _ _) (.inl rfl) _
                have hW9 := hcut8.win.upd hsu9 (fun h => hcut.n1 h.symm) (fun h => hcut.n2 h.symm)
                have hr8 := hcut8.row
                rw [show (b' ++ [x]).length = b'.length + 1 from by simp] at hr8
                have hro9 := own_take (m := 0) (hsu9.own hr8 (fun k hk h => (hcut8.far k hk).1 h)) (by omega)
                have hown9 := hsu9.own hown8 (fun k hk h => by subst h; exact own_ne hown8 hcut8.cells (by decide) hk.symm)
                simp only [List.set_cons_succ, List.set_cons_zero] at hw0
                have hcut9 : Cut gc g gb lo hi bits s3 [] (.slice (some ⟨gv, 0, none⟩) 0 cap) B (wn.setCell ⟨gc, 4, none⟩ (.slice (some ⟨gv, 0, none⟩) 0 cap)) :=
                  ⟨hcut.n1, hcut.n2, hcut.n3, hcut.b1, hcut.b2, hcut.b3, hw0, hW9, by simpa [nums] using hro9, fun k hk => hcut8.far k (by simpa [Value.ownBlock] using hk), by simp⟩
                have hu9 : Upd (CS gc g gb vb) w (wn.setCell ⟨gc, 4, none⟩ (.slice (some ⟨gv, 0, none⟩) 0 cap)) := hu8.trans (hsu9.mono fun k _ h => .inl h)
                have hfr9 : ∀ k, (Value.slice (some ⟨gv, 0, none⟩) 0 cap).ownBlock = some k → vb.ownBlock = some k ∨ w.heap.size ≤ k := fun k hk => hfr4 k (by simpa [Value.ownBlock] using hk)
                have Hown9 := Lib.hid hown9
                clear hown9 hown8 hgr8 hU8 hfar6 hcut8 hw0 hsu9 hW9 hro9 hr8 hcut6 hown6 hu6 hu8
                go_wp2_with (at_builtin; refine wpList_app (by rfl) (.tmp 76) (.tmp 82) 25 (by rfl) (by rfl) (by rfl) hrn ?_)
                go_roundw
                case rel =>
                  refine ⟨pre ++ [x], suf, s3, [], acc ++ [b' ++ [x]], _, _, rfl, by rw [HP.out]; simp, by simp, ?_, ?_, by simp; omega, ?_, hcut9, hfr9, hu9⟩
                  · rw [HRe.out]; simp only [cutRun]; rw [← HS3.out, if_pos hcb]
                  · have := hm.1; have := hm.2.1; simp; omega
                  · have := Hown9.out
                    rw [List.length_append, strs_len] at this
                    simpa [strs] using this
                case measure => simp [intOf]; omega
end Go.Proofs.Ytaeobiilihklhaa.F
