/- Texts of this seat laid together: F, F70, F77, F63, F75, F74, ShaM, Reg, Own, Upd, F66, F58, F59, F46, F56, F39, F57, NumMath, NumC, ShaP, F72, F64, F76, ShaT, ShaS. -/
import Derived.Test.YtmifoihfpjomaaaProg
import Derived.Below
import Derived.Deep.Draws
import Derived.Deep.AppendLies
import Derived.Maps.AppendAt
import Derived.OwnWalk
import Derived.Laws.BytesArg
import Derived.Laws.MakeOwn
import Derived.Laws.OwnMore
import Derived.Deep.OwnRows
import Derived.Tactics
import Derived.Lib.ConvBytes
import Derived.Laws.Slices
import Derived.WalkKit
import Derived.KernelRfl
import Derived.RowKit3
import Derived.Deep.LoopGhost
import Derived.Deep.QuietTactic
import Derived.BigQuiet
import Derived.WideLaws
import Derived.Deep.DeepCutAuto
import Derived.Deep.CutBlock
import Derived.Deep.RegionHeld3
import Derived.Laws.Rows
import Derived.Lib.AppendStr
import Derived.ArgAppend
import Derived.Laws.IdiomCopy
import Derived.OrdersHeld
import Derived.Laws.BitsLemmas
import Derived.RowKit
import Derived.Test.YtmifoihfpjomaaaVWords
import Derived.Test.YtmifoihfpjomaaaVLast
import Derived.Test.YtmifoihfpjomaaaVTab
import Derived.Test.YtmifoihfpjomaaaVFour
import Derived.Test.YtmifoihfpjomaaaVQPut
import Derived.Test.YtmifoihfpjomaaaVApart
import Derived.Test.YtmifoihfpjomaaaVArr
import Derived.Test.YtmifoihfpjomaaaVZeros
import Derived.Test.YtmifoihfpjomaaaVFoot
import Derived.Test.YtmifoihfpjomaaaVKept
import Derived.Test.YtmifoihfpjomaaaVShare
import Derived.Test.YtmifoihfpjomaaaVN
import Derived.Test.YtmifoihfpjomaaaVFootNe
import Derived.Test.YtmifoihfpjomaaaVAt
import Derived.Test.YtmifoihfpjomaaaVEqStruct
import Derived.Test.YtmifoihfpjomaaaVRepsOne
import Derived.Test.YtmifoihfpjomaaaVInv
import Derived.Test.YtmifoihfpjomaaaVInvWords
import Derived.Test.YtmifoihfpjomaaaVGuard
import Derived.Test.YtmifoihfpjomaaaVNEv
import Derived.Test.YtmifoihfpjomaaaVMore
import Derived.Laws.MathBits
import Derived.Lib.Mul64
import Derived.Orders
import Derived.Lib.Hide
import Derived.Laws.Externs

-- F
namespace Go.Proofs.Ytmifoihfpjomaaa.F
open Go.RowKit Go.Proofs.YtmifoihfpjomaaaW.PrintWords Go.Proofs.YtmifoihfpjomaaaW.PrintLast Go.Proofs.YtmifoihfpjomaaaW.PrintMore
attribute [local go_sem] max2_int min2_int max_two min_two max_three min_three max_four min_four   -- for this text's walks alone
set_option linter.unusedVariables false
set_option linter.unusedSimpArgs false



def errW : Option Int → Value
  | none => .nilIface
  | some c => .iface 0 (.int .i64 c)
theorem errW_none : errW none = .nilIface := rfl
theorem errW_some (c : Int) : errW (some c) = .iface 0 (.int .i64 c) := rfl

theorem info5 : (Try.prog.info? 5).map (fun i => (i.zero, i.size, i.bytes)) = some (some (.int .u8 0), 1, 1) := by kernel_rfl
theorem info36 : (Try.prog.info? 36).map (fun i => (i.zero, i.size, i.bytes)) = some (some (.agg #[(.int .i64 0), (.int .i64 0), (.int .i64 0), (.string ⟨#[]⟩), (.int .i64 0)]), 5, 48) := by kernel_rfl
-- the values' own types
/-! #### struct type 36 -/
structure S36 where
  f0 : Int
  f1 : Int
  f2 : Int
  f3 : ByteArray
  f4 : Int
def z36 : S36 := ⟨(0 : Int), (0 : Int), (0 : Int), (⟨#[]⟩ : ByteArray), (0 : Int)⟩
def k36 : Kd S36 := Kd.iso (Kd.pair (Kd.int .i64) (Kd.pair (Kd.int .i64) (Kd.pair (Kd.int .i64) (Kd.pair Kd.string (Kd.int .i64))))) (fun x : S36 => (x.f0, x.f1, x.f2, x.f3, x.f4))
theorem k36_open {w : World} {x : S36} {cs : List Value} (h : k36.K w x cs) : cs = [.int .i64 x.f0, .int .i64 x.f1, .int .i64 x.f2, .string x.f3, .int .i64 x.f4] := by
  obtain ⟨_, _, rfl, rfl, ⟨_, _, rfl, rfl, ⟨_, _, rfl, rfl, ⟨_, _, rfl, rfl, rfl⟩⟩⟩⟩ := h
  exact rfl
theorem k36_mk (w : World) (x : S36)  : k36.K w x [.int .i64 x.f0, .int .i64 x.f1, .int .i64 x.f2, .string x.f3, .int .i64 x.f4] := ⟨[.int .i64 x.f0], [.int .i64 x.f1, .int .i64 x.f2, .string x.f3, .int .i64 x.f4], rfl, rfl, ⟨[.int .i64 x.f1], [.int .i64 x.f2, .string x.f3, .int .i64 x.f4], rfl, rfl, ⟨[.int .i64 x.f2], [.string x.f3, .int .i64 x.f4], rfl, rfl, ⟨[.string x.f3], [.int .i64 x.f4], rfl, rfl, rfl⟩⟩⟩⟩
def rd_T36 (xs : List S36) (i : Int) : S36 := xs.getD i.toNat z36
theorem at_T36 {w : World} {A : Option Addr} {n : Nat} {xs : List S36} (h : Kd.C k36 w A n xs) (i : Int) (h0 : 0 ≤ i) (h1 : i < n) : ∃ ad , A = some ad ∧ w.cell? (ad.add (i.toNat * 5)) = some (.int .i64 (rd_T36 xs i).f0) ∧ w.cell? ⟨(ad.add (i.toNat * 5)).block, (ad.add (i.toNat * 5)).off + 1, none⟩ = some (.int .i64 (rd_T36 xs i).f1) ∧ w.cell? ⟨(ad.add (i.toNat * 5)).block, (ad.add (i.toNat * 5)).off + 2, none⟩ = some (.int .i64 (rd_T36 xs i).f2) ∧ w.cell? ⟨(ad.add (i.toNat * 5)).block, (ad.add (i.toNat * 5)).off + 3, none⟩ = some (.string (rd_T36 xs i).f3) ∧ w.cell? ⟨(ad.add (i.toNat * 5)).block, (ad.add (i.toNat * 5)).off + 4, none⟩ = some (.int .i64 (rd_T36 xs i).f4) := by
  obtain ⟨ad, c, e, _, hK, hc0⟩ := Kd.C_get h z36 i h0 h1
  have hc : ∀ j u, c[j]? = some u → w.cell? (ad.add (i.toNat * 5 + j)) = some u := hc0
  obtain rfl := k36_open hK
  exact ⟨ad, e, hc 0 _ rfl, by rw [← add_field _ _ 1 (by omega)]; exact hc 1 _ rfl, by rw [← add_field _ _ 2 (by omega)]; exact hc 2 _ rfl, by rw [← add_field _ _ 3 (by omega)]; exact hc 3 _ rfl, by rw [← add_field _ _ 4 (by omega)]; exact hc 4 _ rfl⟩

end Go.Proofs.Ytmifoihfpjomaaa.F

namespace Go.Proofs.Ytmifoihfpjomaaa.F
open Go.RowKit Go.Proofs.YtmifoihfpjomaaaW.PrintWords Go.Proofs.YtmifoihfpjomaaaW.PrintLast Go.Proofs.YtmifoihfpjomaaaW.PrintMore
attribute [local go_sem] max2_int min2_int max_two min_two max_three min_three max_four min_four   -- for this text's walks alone
set_option linter.unusedVariables false
set_option linter.unusedSimpArgs false

end Go.Proofs.Ytmifoihfpjomaaa.F

-- F70
namespace Go.Proofs.Ytmifoihfpjomaaa.F
open Go.RowKit Go.Proofs.YtmifoihfpjomaaaW.PrintWords Go.Proofs.YtmifoihfpjomaaaW.PrintLast Go.Proofs.YtmifoihfpjomaaaW.PrintMore
attribute [local go_sem] max2_int min2_int max_two min_two max_three min_three max_four min_four   -- for this text's walks alone
set_option linter.unusedVariables false
set_option linter.unusedSimpArgs false

/-! ### bits_Mul64: function 70 -/
def bits_Mul64.f (a0 : Int) (a1 : Int) : Option (Int × Int) := some (IntKind.u64.wrap ((IntKind.u64.wrap ((IntKind.u64.wrap ((a0 / 4294967296) * (a1 / 4294967296))) + ((IntKind.u64.wrap ((IntKind.u64.wrap ((a0 / 4294967296) * (Go.bits .and .u64 a1 4294967295))) + ((IntKind.u64.wrap ((Go.bits .and .u64 a0 4294967295) * (Go.bits .and .u64 a1 4294967295))) / 4294967296))) / 4294967296))) + ((IntKind.u64.wrap ((Go.bits .and .u64 (IntKind.u64.wrap ((IntKind.u64.wrap ((a0 / 4294967296) * (Go.bits .and .u64 a1 4294967295))) + ((IntKind.u64.wrap ((Go.bits .and .u64 a0 4294967295) * (Go.bits .and .u64 a1 4294967295))) / 4294967296))) 4294967295) + (IntKind.u64.wrap ((Go.bits .and .u64 a0 4294967295) * (a1 / 4294967296))))) / 4294967296)), IntKind.u64.wrap (a0 * a1))
set_option maxHeartbeats 8000000 in
set_option maxRecDepth 100000 in
theorem bits_Mul64.calls (a0 : Int) (a1 : Int) (r1 : Int) (r2 : Int) (w : World) (h : bits_Mul64.f a0 a1 = some (r1, r2)) :
    Calls Try.prog 70 #[.int .u64 a0, .int .u64 a1] w fun e w' => e = .returned (.tuple #[.int .u64 r1, .int .u64 r2]) ∧ Drawn0 w w' := by
  have H : (some (IntKind.u64.wrap ((IntKind.u64.wrap ((IntKind.u64.wrap ((a0 / 4294967296) * (a1 / 4294967296))) + ((IntKind.u64.wrap ((IntKind.u64.wrap ((a0 / 4294967296) * (Go.bits .and .u64 a1 4294967295))) + ((IntKind.u64.wrap ((Go.bits .and .u64 a0 4294967295) * (Go.bits .and .u64 a1 4294967295))) / 4294967296))) / 4294967296))) + ((IntKind.u64.wrap ((Go.bits .and .u64 (IntKind.u64.wrap ((IntKind.u64.wrap ((a0 / 4294967296) * (Go.bits .and .u64 a1 4294967295))) + ((IntKind.u64.wrap ((Go.bits .and .u64 a0 4294967295) * (Go.bits .and .u64 a1 4294967295))) / 4294967296))) 4294967295) + (IntKind.u64.wrap ((Go.bits .and .u64 a0 4294967295) * (a1 / 4294967296))))) / 4294967296)), IntKind.u64.wrap (a0 * a1))) = some (r1, r2) := h
  clear h
  simp only [Option.some.injEq, Prod.mk.injEq] at H
  obtain ⟨rfl, rfl⟩ := H
  go_enter Try.func70, Try.ntmps70
  go_wp2
  go_ret2
  exact ⟨by first | rfl | (simp; done) | (simp [*]; done), by repeat (first | exact Drawn0.refl _ | apply Drawn0.step)⟩

-- NOT PRINTED: function 71 (bits_Add64)

-- NOT PRINTED: function 62 (sha_aboveCube)

end Go.Proofs.Ytmifoihfpjomaaa.F

-- F77
namespace Go.Proofs.Ytmifoihfpjomaaa.F
open Go.RowKit Go.Proofs.YtmifoihfpjomaaaW.PrintWords Go.Proofs.YtmifoihfpjomaaaW.PrintLast Go.Proofs.YtmifoihfpjomaaaW.PrintMore
attribute [local go_sem] max2_int min2_int max_two min_two max_three min_three max_four min_four   -- for this text's walks alone
set_option linter.unusedVariables false
set_option linter.unusedSimpArgs false

end Go.Proofs.Ytmifoihfpjomaaa.F

-- F63
namespace Go.Proofs.Ytmifoihfpjomaaa.F
open Go.RowKit Go.Proofs.YtmifoihfpjomaaaW.PrintWords Go.Proofs.YtmifoihfpjomaaaW.PrintLast Go.Proofs.YtmifoihfpjomaaaW.PrintMore
attribute [local go_sem] max2_int min2_int max_two min_two max_three min_three max_four min_four   -- for this text's walks alone
set_option linter.unusedVariables false
set_option linter.unusedSimpArgs false

/-! ### sha_above: function 63 -/
def sha_above.f (a0 : Int) (a1 : Int) : Option (Bool) := (bits_Mul64.f a0 a0).bind fun bt118 => (if bt118.1 > a1 then (some true) else (if bt118.1 = a1 then (some (decide (bt118.2 > 0))) else (some false)))
set_option maxHeartbeats 8000000 in
set_option maxRecDepth 100000 in
theorem sha_above.calls (a0 : Int) (a1 : Int) (r : Bool) (w : World) (h : sha_above.f a0 a1 = some r) :
    Calls Try.prog 63 #[.int .u64 a0, .int .u64 a1] w fun e w' => e = .returned (.bool r) ∧ Drawn0 w w' := by
  have H : ((bits_Mul64.f a0 a0).bind fun bt118 => (if bt118.1 > a1 then (some true) else (if bt118.1 = a1 then (some (decide (bt118.2 > 0))) else (some false)))) = some r := h
  clear h
  replace H := Option.bind_eq_some_iff.mp H
  obtain ⟨⟨t118, t119⟩, A30, H⟩ := H
  replace H : (if t118 > a1 then (some true) else (if t118 = a1 then (some (decide (t119 > 0))) else (some false))) = some r := H
  have A3 := Aside0.mk A30
  clear A30
  by_cases c4 : t118 > a1
  · rw [if_pos c4] at H
    have c4b0 : decide (a1 < t118) = true := decide_eq_true c4
    clear c4
    obtain rfl := Option.some.inj H
    go_enter Try.func63, Try.ntmps63
    go_wp2_with (first | ((with_reducible refine gate_callee (f := 70) rfl ?_); refine goesL_ (some 10) rfl rfl Try.func70 (by kernel_rfl) rfl #[.int .u64 a0, .int .u64 a0] rfl (by (try simp only [List.map_toArray, List.map_cons, List.map_nil]); first | done | rfl | (simp only [List.length_drop, List.length_take]; rfl)) ?_; (with_reducible refine (bits_Mul64.calls a0 a0 t118 t119 _ A3.out).mono ?_); rintro e w' ⟨rfl, ⟨nd, rfl⟩⟩; refine ⟨_, rfl, ?_⟩))
    go_ret
    exact ⟨by first | rfl | (simp; done) | (simp [*]; done), by repeat (first | exact Drawn0.refl _ | apply Drawn0.step)⟩
  · rw [if_neg c4] at H
    have c4b0 : decide (a1 < t118) = false := decide_eq_false c4
    clear c4
    by_cases c5 : t118 = a1
    · rw [if_pos c5] at H
      have c5b0 : (t118 == a1) = true := beq_iff_eq.mpr c5
      have c5b1 : (t118 != a1) = false := bne_eq_false_iff_eq.mpr c5
      clear c5
      obtain rfl := Option.some.inj H
      go_enter Try.func63, Try.ntmps63
      go_wp2_with (first | ((with_reducible refine gate_callee (f := 70) rfl ?_); refine goesL_ (some 10) rfl rfl Try.func70 (by kernel_rfl) rfl #[.int .u64 a0, .int .u64 a0] rfl (by (try simp only [List.map_toArray, List.map_cons, List.map_nil]); first | done | rfl | (simp only [List.length_drop, List.length_take]; rfl)) ?_; (with_reducible refine (bits_Mul64.calls a0 a0 t118 t119 _ A3.out).mono ?_); rintro e w' ⟨rfl, ⟨nd, rfl⟩⟩; refine ⟨_, rfl, ?_⟩))
      go_ret
      exact ⟨by first | rfl | (simp; done) | (simp [*]; done), by repeat (first | exact Drawn0.refl _ | apply Drawn0.step)⟩
    · rw [if_neg c5] at H
      have c5b0 : (t118 == a1) = false := beq_eq_false_iff_ne.mpr c5
      have c5b1 : (t118 != a1) = true := bne_iff_ne.mpr c5
      obtain rfl := Option.some.inj H
      go_enter Try.func63, Try.ntmps63
      go_wp2_with (first | ((with_reducible refine gate_callee (f := 70) rfl ?_); refine goesL_ (some 10) rfl rfl Try.func70 (by kernel_rfl) rfl #[.int .u64 a0, .int .u64 a0] rfl (by (try simp only [List.map_toArray, List.map_cons, List.map_nil]); first | done | rfl | (simp only [List.length_drop, List.length_take]; rfl)) ?_; (with_reducible refine (bits_Mul64.calls a0 a0 t118 t119 _ A3.out).mono ?_); rintro e w' ⟨rfl, ⟨nd, rfl⟩⟩; refine ⟨_, rfl, ?_⟩))
      go_ret
      exact ⟨by first | rfl | (simp; done) | (simp [*]; done), by repeat (first | exact Drawn0.refl _ | apply Drawn0.step)⟩

-- NOT PRINTED: function 50 (sha_Root)

-- NOT PRINTED: function 49 (sha_roots)

end Go.Proofs.Ytmifoihfpjomaaa.F

-- F75
namespace Go.Proofs.Ytmifoihfpjomaaa.F
open Go.RowKit Go.Proofs.YtmifoihfpjomaaaW.PrintWords Go.Proofs.YtmifoihfpjomaaaW.PrintLast Go.Proofs.YtmifoihfpjomaaaW.PrintMore
attribute [local go_sem] max2_int min2_int max_two min_two max_three min_three max_four min_four   -- for this text's walks alone
set_option linter.unusedVariables false
set_option linter.unusedSimpArgs false

end Go.Proofs.Ytmifoihfpjomaaa.F

-- F74
namespace Go.Proofs.Ytmifoihfpjomaaa.F
open Go.RowKit Go.Proofs.YtmifoihfpjomaaaW.PrintWords Go.Proofs.YtmifoihfpjomaaaW.PrintLast Go.Proofs.YtmifoihfpjomaaaW.PrintMore
attribute [local go_sem] max2_int min2_int max_two min_two max_three min_three max_four min_four   -- for this text's walks alone
set_option linter.unusedVariables false
set_option linter.unusedSimpArgs false

end Go.Proofs.Ytmifoihfpjomaaa.F

-- ShaM
namespace Go.Proofs.Ytmifoihfpjomaaa.F
open Go Go.RowKit Go.Proofs.YtmifoihfpjomaaaW.PrintWords Go.Proofs.YtmifoihfpjomaaaW.PrintLast Go.Proofs.YtmifoihfpjomaaaW.PrintMore
set_option linter.unusedSimpArgs false
set_option linter.unusedVariables false
theorem mul64_f (x y : Int) (hx0 : 0 ≤ x) (hx : x < 18446744073709551616) (hy0 : 0 ≤ y) (hy : y < 18446744073709551616) :
    bits_Mul64.f x y = some (x * y / 18446744073709551616, x * y % 18446744073709551616) := by
  have hm := mul64_arith x y hx0 hx hy0 hy
  unfold bits_Mul64.f
  simp only [IntKind.wrap_u64, and_low32 x hx0 hx, and_low32 y hy0 hy]
  rw [and_low32 _ (by omega) (by omega), hm]
/-- is a number's square (or cube) no more than the bound's multiple? -/
def okL (p : Nat) (cube : Bool) (y : Nat) : Bool := match cube with
  | true => decide (y * y * y ≤ p * 79228162514264337593543950336)
  | false => decide (y * y ≤ p * 18446744073709551616)
/-- the search by halves -/
def rootL (p : Nat) (cube : Bool) : Nat → Nat → Nat
  | 0, x => x
  | n + 1, x => rootL p cube n (if okL p cube (x + 2 ^ n) = true then x + 2 ^ n else x)
theorem above_f (y p : Nat) (hy : y < 18446744073709551616) : sha_above.f y p = some (!okL p false y) := by
  unfold sha_above.f
  rw [mul64_f y y (by omega) (by omega) (by omega) (by omega)]
  simp only [Option.bind_some, okL]
  rw [show ((y : Int) * (y : Int)) = ((y * y : Nat) : Int) from by simp]
  generalize y * y = Y
  by_cases h1 : (Y : Int) / 18446744073709551616 > p
  · rw [if_pos h1]; simp; omega
  · rw [if_neg h1]
    by_cases h2 : (Y : Int) / 18446744073709551616 = p
    · rw [if_pos h2]; congr 1; rw [← decide_not]; exact decide_eq_decide.2 (by omega)
    · rw [if_neg h2]; simp; omega
/-- the cube in three words -/
theorem cube_words (y : Nat) (hy : y < 17592186044416) : ∃ hi lo top mid up low : Nat, y * y = hi * 18446744073709551616 + lo ∧ lo < 18446744073709551616 ∧ hi < 16777216 ∧
    hi * y = top * 18446744073709551616 + mid ∧ mid < 18446744073709551616 ∧ top < 16 ∧ lo * y = up * 18446744073709551616 + low ∧ low < 18446744073709551616 ∧ up < 17592186044416 ∧ y * y * y = (top * 18446744073709551616 + mid + up) * 18446744073709551616 + low := by
  have h1 : y * y ≤ 17592186044415 * 17592186044415 := Nat.mul_le_mul (by omega) (by omega)
  have h2 : y * y / 18446744073709551616 * y ≤ 16777215 * 17592186044415 := Nat.mul_le_mul (by omega) (by omega)
  have h3 : y * y % 18446744073709551616 * y ≤ 18446744073709551615 * 17592186044415 := Nat.mul_le_mul (by omega) (by omega)
  have h4 : y * y * y = y * y / 18446744073709551616 * y * 18446744073709551616 + y * y % 18446744073709551616 * y := by
    conv => lhs; rw [show y * y = y * y / 18446744073709551616 * 18446744073709551616 + y * y % 18446744073709551616 from by omega]
    rw [Nat.add_mul, Nat.mul_right_comm]
  refine ⟨y * y / 18446744073709551616, y * y % 18446744073709551616, y * y / 18446744073709551616 * y / 18446744073709551616, y * y / 18446744073709551616 * y % 18446744073709551616, y * y % 18446744073709551616 * y / 18446744073709551616, y * y % 18446744073709551616 * y % 18446744073709551616, by omega, by omega, by omega, ?_, ?_, ?_, ?_, ?_, ?_, ?_⟩
  all_goals (generalize y * y / 18446744073709551616 * y = u at *; generalize y * y % 18446744073709551616 * y = v at *)
  · omega
  · omega
  · omega
  · omega
  · omega
  · omega
  · rw [h4]; omega
/-- the greedy search stays below what its bits allow, and far numbers are never taken -/
theorem okL_far (p y : Nat) (hp : p < 4294967296) (hy : 8796093022208 ≤ y) : okL p true y = false := by
  have h1 : 8796093022208 * 8796093022208 * 8796093022208 ≤ y * y * y := Nat.mul_le_mul (Nat.mul_le_mul hy hy) hy
  simp only [okL]
  exact decide_eq_false (by omega)
end Go.Proofs.Ytmifoihfpjomaaa.F

-- Reg
namespace Go.Proofs.YtmifoihfpjomaaaR
open Go Go.RowKit

/-- what an operation reads: a temporary, and the last operation ahead of it (in the text) that writes it -/
abbrev Reads := List (Tmp × Option Nat)
/-- its guard: the temporary, and what it must be -/
abbrev GuardT := Option (Tmp × Bool)

def lastW (ops : Array Oper) (p : Nat → Bool) (t : Tmp) : Option Nat :=
  (List.range ops.size).reverse.find? fun j => p j && ((ops[j]?).bind (·.dst) == some t)

def bitsOf (A : List Nat) : List Edge → Nat
  | [] => 0
  | e :: es => (if Region.binds .any e then 2 ^ e.on ||| A.getD e.on 0 else 0) ||| bitsOf A es

def mkAnc (ops : List Oper) : List Nat := ops.foldl (fun A o => A ++ [bitsOf A o.after.toList]) []

def edgesOk (ops : Array Oper) (A : List Nat) : Bool :=
  (List.range ops.size).all fun j => match ops[j]? with
    | none => true
    | some o => A.getD j 0 == bitsOf A o.after.toList && o.after.toList.all fun e => !Region.binds .any e || decide (e.on < j)

def names (ops : Array Oper) (o : Oper) : List Tmp := o.dst.toList ++ o.looksAt ops

def pairsOk (ops : Array Oper) (A : List Nat) : Bool :=
  (List.range ops.size).all fun j => match ops[j]? with
    | none => true
    | some oj => (List.range j).all fun i => match ops[i]? with
      | none => true
      | some oi => (A.getD j 0).testBit i || ((oi.dst.all fun t => !(names ops oj).contains t) && (oj.dst.all fun t => !(oi.looksAt ops).contains t))

def readsOk (ops : Array Oper) (reads : List (Reads × GuardT)) (n : Nat) : Bool :=
  (List.range reads.length).all fun i => match ops[i]?, reads[i]? with
    | some o, some (r, g) =>
      (r.all fun (t, j) => (o.looksAt ops).contains t && lastW ops (fun j => decide (j < i)) t == j) &&
      (o.dst.all fun d => decide (d < n)) &&
      (match o.guard, g with
        | none, none => true
        | some (k, want), some (t, want') => want == want' && (ops[k]?).bind (·.dst) == some t
        | _, _ => false)
    | _, _ => true

def finalOk (ops : Array Oper) (m : Nat) (fin : List (Tmp × Nat)) : Bool :=
  (fin.all fun (t, j) => lastW ops (fun j => decide (j < m)) t == some j) &&
  (ops.toList.take m).all fun o => o.dst.all fun t => (fin.map (·.1)).contains t

/-- from operation m on, each waits for all that stand ahead of it -/
def tailOk (ops : Array Oper) (A : List Nat) (m : Nat) : Bool :=
  decide (m ≤ ops.size) && (List.range ops.size).all fun j => decide (j < m) || (List.range j).all fun i => (A.getD j 0).testBit i

def regionOk (ops : Array Oper) (reads : List (Reads × GuardT)) (fin : List (Tmp × Nat)) (n : Nat) : Bool :=
  let A := mkAnc ops.toList
  edgesOk ops A && pairsOk ops A && readsOk ops reads n && finalOk ops reads.length fin && tailOk ops A reads.length

section
variable (P : Program) (Q : Exit → Act → World → Prop) (R : World → World → Prop) (V : Nat → World → Value → Prop) (a0 : Act) (w0 : World) (E : Act → World → Prop)

def Dep (a : Act) (w : World) : Tmp × Option Nat → Prop
  | (t, some j) => V j w (a.tmps[t]?.getD undef)
  | (t, none) => a.tmps[t]?.getD undef = a0.tmps[t]?.getD undef

def Deps (a : Act) (w : World) : Reads → Prop
  | [] => True
  | r :: rs => Dep V a0 a w r ∧ Deps a w rs

/-- an operation's goal: whatever comes behind it -/
def OpGoal (o : Oper) (g : GuardT) (i : Nat) (a : Act) (w : World) : Prop :=
  match g with
  | none => ∀ K : Act → World → Prop, (∀ v w', R w w' → V i w' v → K (a.put o.dst v) w') → o.wp P a w K Q
  | some (t, want) => (a.tmps[t]?.getD undef = .bool want → ∀ K : Act → World → Prop, (∀ v w', R w w' → V i w' v → K (a.put o.dst v) w') → o.wp P a w K Q) ∧
      (a.tmps[t]?.getD undef ≠ .bool want → V i w undef)

def OpsHold : Nat → List Oper → List (Reads × GuardT) → Prop
  | i, o :: os, (r, g) :: rs => (∀ a w, R w0 w → Deps V a0 a w r → OpGoal P Q R V o g i a w) ∧ OpsHold (i + 1) os rs
  | _, _, _ => True

/-- behind the region: what each temporary holds at last -/
def EndHold : (World → Prop) → List (Tmp × Nat) → Act → Prop
  | F, [], a => ∀ w, R w0 w → F w → E a w
  | F, (t, j) :: fin, a => ∀ v, EndHold (fun w => F w ∧ V j w v) fin (a.put (some t) v)
end

theorem testBit_bitsOf (A : List Nat) (i : Nat) : ∀ es : List Edge, (bitsOf A es).testBit i = true →
    ∃ e ∈ es, Region.binds .any e = true ∧ (e.on = i ∨ (A.getD e.on 0).testBit i = true)
  | [], h => by simp [bitsOf] at h
  | e :: es, h => by
    simp only [bitsOf, Nat.testBit_or, Bool.or_eq_true] at h
    rcases h with h | h
    · split at h
      · rename_i hb
        simp only [Nat.testBit_or, Bool.or_eq_true, Nat.testBit_two_pow, decide_eq_true_eq] at h
        exact ⟨e, by simp, hb, h⟩
      · simp at h
    · obtain ⟨e', he, hb, h'⟩ := testBit_bitsOf A i es h
      exact ⟨e', by simp [he], hb, h'⟩

/-- what is listed is closed downward -/
def Closed (ops : Array Oper) (listed : Array Bool) : Prop :=
  ∀ j o, ops[j]? = some o → listed.getD j false = true → ∀ e ∈ o.after, Region.binds .any e = true → listed.getD e.on false = true

theorem closed_anc {ops : Array Oper} {A : List Nat} {listed : Array Bool} (hA : edgesOk ops A = true) (hc : Closed ops listed) :
    ∀ (j : Nat) (o : Oper), ops[j]? = some o → (∀ e ∈ o.after, Region.binds .any e = true → listed.getD e.on false = true) → ∀ i, (A.getD j 0).testBit i = true → listed.getD i false = true := by
  intro j
  induction j using Nat.strongRecOn with
  | _ j ih =>
    intro o ho hd i hi
    have hj : j < ops.size := (Array.getElem?_eq_some_iff.1 ho).1
    have h1 := List.all_eq_true.1 hA j (List.mem_range.2 hj)
    simp only [ho, Bool.and_eq_true, beq_iff_eq, List.all_eq_true, Bool.or_eq_true, Bool.not_eq_true', decide_eq_true_eq] at h1
    obtain ⟨e1, e2⟩ := h1
    rw [e1] at hi
    obtain ⟨e, he, hb, h⟩ := testBit_bitsOf A i _ hi
    have hlt := (e2 e he).resolve_left (by simp [hb])
    have hl := hd e (by simpa using he) hb
    rcases h with rfl | h
    · exact hl
    · have hek : e.on < ops.size := by omega
      exact ih e.on hlt _ (Array.getElem?_eq_getElem hek) (hc e.on _ (Array.getElem?_eq_getElem hek) hl) i h

theorem getD_set_self {listed : Array Bool} {i : Nat} (h : i < listed.size) (d : Bool) : (listed.setIfInBounds i true).getD i d = true := by
  simp [h]
theorem getD_set_other {listed : Array Bool} {i j : Nat} (d : Bool) (h : i ≠ j) : (listed.setIfInBounds i true).getD j d = listed.getD j d := by
  simp [Array.getElem?_setIfInBounds_ne h]
theorem getD_irrel {listed : Array Bool} {i : Nat} (h : i < listed.size) (d d' : Bool) : listed.getD i d = listed.getD i d' := by simp [h]

theorem lastW_congr {ops : Array Oper} {p q : Nat → Bool} {t : Tmp} (h : ∀ j o, ops[j]? = some o → o.dst = some t → p j = q j) : lastW ops p t = lastW ops q t := by
  unfold lastW
  have aux : ∀ l : List Nat, l.find? (fun j => p j && ((ops[j]?).bind (·.dst) == some t)) = l.find? (fun j => q j && ((ops[j]?).bind (·.dst) == some t)) := by
    intro l
    induction l with
    | nil => rfl
    | cons j l ih =>
      have e : (p j && ((ops[j]?).bind (·.dst) == some t)) = (q j && ((ops[j]?).bind (·.dst) == some t)) := by
        cases ho : ops[j]? with
        | none => simp
        | some o =>
          by_cases hd : o.dst = some t
          · rw [h j o ho hd]
          · simp [show (o.dst == some t) = false from by simpa using hd]
      simp only [List.find?_cons, e, ih]
  exact aux _

theorem lastW_set {ops : Array Oper} {p : Nat → Bool} {i : Nat} {o : Oper} {t : Tmp} (ho : ops[i]? = some o) (hd : o.dst = some t) (hp : p i = true)
    (hno : ∀ j oj, ops[j]? = some oj → oj.dst = some t → i < j → p j = false) : lastW ops p t = some i := by
  unfold lastW
  have hi : i < ops.size := (Array.getElem?_eq_some_iff.1 ho).1
  have : (List.range ops.size) = List.range (i + 1) ++ (List.range' (i + 1) (ops.size - (i + 1))) := by
    rw [List.range_eq_range', List.range_eq_range']
    have := List.range'_append_1 (s := 0) (m := i + 1) (n := ops.size - (i + 1))
    rw [Nat.zero_add] at this
    rw [this]; congr 1; omega
  rw [this, List.reverse_append, List.find?_append]
  rw [List.find?_eq_none.2]
  · rw [List.range_succ, List.reverse_append]
    simp [ho, hd, hp]
  · intro x hx
    simp only [List.mem_reverse, List.mem_range'_1] at hx
    cases hox : ops[x]? with
    | none => simp
    | some ox =>
      by_cases hdx : ox.dst = some t
      · simp [hno x ox hox hdx (by omega)]
      · simp [hdx]

section
variable {P : Program} {ops : Array Oper} {Q : Exit → Act → World → Prop} {R : World → World → Prop} {V : Nat → World → Value → Prop} {a0 : Act} {w0 : World} {E : Act → World → Prop}

/-- what is known between two operations -/
structure Inv (ops : Array Oper) (m : Nat) (R : World → World → Prop) (V : Nat → World → Value → Prop) (a0 : Act) (w0 : World) (listed : Array Bool) (a : Act) (w : World) : Prop where
  step : R w0 w
  size : a.tmps.size = a0.tmps.size
  defers : a.defers = a0.defers
  lsize : listed.size = ops.size
  closed : Closed ops listed
  tail : ∀ j, m ≤ j → listed.getD j false = false
  tmps : ∀ t, match lastW ops (fun j => listed.getD j false) t with
    | some j => V j w (a.tmps[t]?.getD undef)
    | none => a.tmps[t]?.getD undef = a0.tmps[t]?.getD undef

theorem opsHold_at : ∀ (os : List Oper) (rs : List (Reads × GuardT)) (k i : Nat) (o : Oper) (r : Reads) (g : GuardT), OpsHold P Q R V a0 w0 k os rs → os[i]? = some o → rs[i]? = some (r, g) →
    ∀ a w, R w0 w → Deps V a0 a w r → OpGoal P Q R V o g (k + i) a w
  | [], _, _, i, o, r, g, _, ho, _ => by simp at ho
  | o' :: os, [], _, i, o, r, g, _, _, hr => by simp at hr
  | o' :: os, (r', g') :: rs, k, 0, o, r, g, h, ho, hr => by
    simp at ho hr
    obtain ⟨rfl, rfl⟩ := hr
    subst ho
    exact h.1
  | o' :: os, (r', g') :: rs, k, i + 1, o, r, g, h, ho, hr => by
    have := opsHold_at os rs (k + 1) i o r g h.2 (by simpa using ho) (by simpa using hr)
    rw [show k + 1 + i = k + (i + 1) from by omega] at this
    exact this

theorem deps_of (a : Act) (w : World) : ∀ r : Reads, (∀ x ∈ r, Dep V a0 a w x) → Deps V a0 a w r
  | [], _ => trivial
  | x :: r, h => ⟨h x (by simp), deps_of a w r fun y hy => h y (by simp [hy])⟩

theorem unlisted_set {listed : Array Bool} {i : Nat} (h : listed.getD i true = false) (n : Nat) (hn : (listed.toList.count false) ≤ n + 1) : ((listed.setIfInBounds i true).toList.count false) ≤ n := by
  have hi : i < listed.size := by
    rcases Nat.lt_or_ge i listed.size with h' | h'
    · exact h'
    · simp [Array.getElem?_eq_none h'] at h
  have hv : listed[i] = false := by simpa [hi] using h
  rw [Array.toList_setIfInBounds]
  have hl : i < listed.toList.length := by simpa using hi
  rw [List.count_set hl]
  have : listed.toList[i] = false := by simpa using hv
  rw [this]
  simp only [beq_self_eq_true, if_true]
  have hb : (true == false) = false := rfl
  rw [hb]
  simp only [Bool.false_eq_true, if_false]
  omega

theorem all_of_ready {md : Region.Mode} {listed : Array Bool} {A : List Nat} (hm : md = .any) (hA : edgesOk ops A = true) (hs : listed.size = ops.size) (h : Region.ready md ops listed = []) :
    ∀ j, j < ops.size → listed.getD j false = true := by
  subst hm
  intro j
  induction j using Nat.strongRecOn with
  | _ j ih =>
    intro hj
    cases hl : listed.getD j false with
    | true => rfl
    | false =>
      exfalso
      have ho := Array.getElem?_eq_getElem hj
      have h1 := List.all_eq_true.1 hA j (List.mem_range.2 hj)
      simp only [ho, Bool.and_eq_true, beq_iff_eq, List.all_eq_true, Bool.or_eq_true, Bool.not_eq_true', decide_eq_true_eq] at h1
      have : j ∈ Region.ready .any ops listed := mem_ready.2 ⟨by rw [getD_irrel (by omega) true false]; exact hl, _, ho, fun e he hb => ih e.on ((h1.2 e (by simpa using he)).resolve_left (by simp [hb])) (by have := (h1.2 e (by simpa using he)).resolve_left (by simp [hb]); omega)⟩
      rw [h] at this
      cases this

theorem wanted_iff {o : Oper} {k : Nat} {want : Bool} {t : Tmp} {a : Act} (hg : o.guard = some (k, want)) (hk : (ops[k]?).bind (·.dst) = some t) :
    Region.wanted o (yielded ops a.tmps) = true ↔ a.tmps[t]?.getD undef = .bool want := by
  unfold Region.wanted yielded
  rw [hg]
  simp only []
  rw [hk]
  simp only [Option.bind_some]
  cases h : a.tmps[t]? with
  | none => simp [undef]
  | some v => cases v <;> simp

/-- the tail: one behind the other, in the text's order -/
theorem wpAny_tail {A : List Nat} {m : Nat} (hA : edgesOk ops A = true) (hT : tailOk ops A m = true) :
    ∀ (fuel k : Nat) (listed : Array Bool) (a : Act) (w : World), m ≤ k → ops.size ≤ k + fuel → k ≤ ops.size → listed.size = ops.size → (∀ j, listed.getD j false = decide (j < k)) →
      wpList P ops Q (ops.toList.drop k) a w → wpAny P .any ops Q fuel listed a w := by
  simp only [tailOk, Bool.and_eq_true, decide_eq_true_eq, List.all_eq_true, Bool.or_eq_true, List.mem_range] at hT
  have ready_at : ∀ (k : Nat) (listed : Array Bool), m ≤ k → k ≤ ops.size → listed.size = ops.size → (∀ j, listed.getD j false = decide (j < k)) → ∀ i, i ∈ Region.ready .any ops listed ↔ i = k ∧ k < ops.size := by
    intro k listed hmk hk hs hl i
    constructor
    · intro hi
      obtain ⟨hun, o, ho, hd⟩ := mem_ready.1 hi
      have hisz := (Array.getElem?_eq_some_iff.1 ho).1
      have hik : ¬ i < k := by
        have := hl i
        rw [getD_irrel (by omega) false true, hun] at this
        simpa using this.symm
      rcases Nat.lt_or_ge k i with hlt | hge
      · exfalso
        have hb := (hT.2 i hisz).resolve_left (by omega) k hlt
        have hcl : Closed ops listed := by
          intro j oj hoj hlj e he hbe
          have h1 := List.all_eq_true.1 hA j (List.mem_range.2 (Array.getElem?_eq_some_iff.1 hoj).1)
          simp only [hoj, Bool.and_eq_true, beq_iff_eq, List.all_eq_true, Bool.or_eq_true, Bool.not_eq_true', decide_eq_true_eq] at h1
          have := (h1.2 e (by simpa using he)).resolve_left (by simp [hbe])
          rw [hl] at hlj ⊢
          simp at hlj ⊢
          omega
        have := closed_anc hA hcl i o ho hd k hb
        rw [hl] at this
        simp at this
      · exact ⟨by omega, by omega⟩
    · rintro ⟨rfl, hlt⟩
      refine mem_ready.2 ⟨by rw [getD_irrel (by omega) true false, hl]; simp, _, Array.getElem?_eq_getElem hlt, fun e he hbe => ?_⟩
      have h1 := List.all_eq_true.1 hA i (List.mem_range.2 hlt)
      simp only [Array.getElem?_eq_getElem hlt, Bool.and_eq_true, beq_iff_eq, List.all_eq_true, Bool.or_eq_true, Bool.not_eq_true', decide_eq_true_eq] at h1
      have := (h1.2 e (by simpa using he)).resolve_left (by simp [hbe])
      rw [hl]; simpa using this
  intro fuel
  induction fuel with
  | zero =>
    intro k listed a w hmk hf hk hs hl h
    obtain rfl : k = ops.size := by omega
    have hr : Region.ready .any ops listed = [] := by
      refine List.eq_nil_iff_forall_not_mem.2 fun i hi => ?_
      have := (ready_at ops.size listed hmk hk hs hl i).1 hi
      omega
    refine ⟨hr, ?_⟩
    rw [List.drop_of_length_le (by simp)] at h
    exact h
  | succ fuel ih =>
    intro k listed a w hmk hf hk hs hl h
    refine ⟨fun hr => ?_, fun i hi => ?_⟩
    · rcases Nat.lt_or_ge k ops.size with hlt | hge
      · have := (ready_at k listed hmk hk hs hl k).2 ⟨rfl, hlt⟩
        rw [hr] at this; cases this
      · rw [List.drop_of_length_le (by simpa using hge)] at h
        exact h
    · obtain ⟨rfl, hlt⟩ := (ready_at k listed hmk hk hs hl i).1 hi
      have hdrop : ops.toList.drop i = ops[i] :: ops.toList.drop (i + 1) := by
        rw [List.drop_eq_getElem_cons (by simpa using hlt)]; simp
      rw [hdrop] at h
      have hl' : ∀ j, (listed.setIfInBounds i true).getD j false = decide (j < i + 1) := by
        intro j
        by_cases hji : i = j
        · subst hji; rw [getD_set_self (by omega)]; simp
        · rw [getD_set_other _ hji, hl]; simp; omega
      have next : ∀ a' w', wpList P ops Q (ops.toList.drop (i + 1)) a' w' → wpAny P .any ops Q fuel (listed.setIfInBounds i true) a' w' := fun a' w' h' =>
        ih (i + 1) _ a' w' (by omega) (by omega) (by omega) (by simpa using hs) hl' h'
      unfold wpList at h
      unfold wpOp
      simp only [Array.getElem?_eq_getElem hlt]
      split
      · rename_i hw
        rw [if_pos hw] at h
        exact h.imp (Oper.wp_mono next) id
      · rename_i hw
        rw [if_neg hw] at h
        exact next _ _ h

theorem wpAny_inv {A : List Nat} {reads : List (Reads × GuardT)} (hA : edgesOk ops A = true) (hP : pairsOk ops A = true) (hR : readsOk ops reads a0.tmps.size = true) (hT : tailOk ops A reads.length = true)
    (hrf : ∀ w, R w w) (htr : ∀ a b c, R a b → R b c → R a c) (hst : ∀ i w w' v, R w w' → V i w v → V i w' v)
    (hops : OpsHold P Q R V a0 w0 0 ops.toList reads)
    (hend : ∀ listed a w, (∀ j, listed.getD j false = decide (j < reads.length)) → Inv ops reads.length R V a0 w0 listed a w → wpList P ops Q (ops.toList.drop reads.length) a w) :
    ∀ (fuel : Nat) (listed : Array Bool) (a : Act) (w : World), listed.toList.count false ≤ fuel → Inv ops reads.length R V a0 w0 listed a w → wpAny P .any ops Q fuel listed a w := by
  have hT0 := hT
  simp only [tailOk, Bool.and_eq_true, decide_eq_true_eq, List.all_eq_true, Bool.or_eq_true, List.mem_range] at hT0
  -- when all of the head has come up
  have fin : ∀ (fuel : Nat) (listed : Array Bool) (a : Act) (w : World), listed.toList.count false ≤ fuel → Inv ops reads.length R V a0 w0 listed a w → (∀ j, j < reads.length → listed.getD j false = true) → wpAny P .any ops Q fuel listed a w := by
    intro fuel listed a w hf hi hall
    have hl : ∀ j, listed.getD j false = decide (j < reads.length) := by
      intro j
      rcases Nat.lt_or_ge j reads.length with h | h
      · rw [hall j h]; simp [h]
      · rw [hi.tail j h]; simp; omega
    refine wpAny_tail hA hT fuel reads.length listed a w (Nat.le_refl _) ?_ hT0.1 hi.lsize hl (hend listed a w hl hi)
    -- those that are not listed are as many as the tail is long
    have : (listed.toList.drop reads.length).count false = listed.size - reads.length := by
      have h1 : listed.toList.drop reads.length = List.replicate (listed.size - reads.length) false := by
        refine List.ext_getElem (by simp) fun j h1 h2 => ?_
        simp only [List.getElem_drop, List.getElem_replicate]
        have h3 : reads.length + j < listed.size := by simp at h1; omega
        have h4 := hi.tail (reads.length + j) (by omega)
        simpa [h3] using h4
      rw [h1, List.count_replicate_self]
    have h2 : (listed.toList.drop reads.length).count false ≤ listed.toList.count false := List.Sublist.count_le _ (List.drop_sublist _ _)
    have := hi.lsize
    omega
  -- before that, nothing of the tail may come up
  have low : ∀ (listed : Array Bool), listed.size = ops.size → Closed ops listed → ∀ i, i ∈ Region.ready .any ops listed → reads.length ≤ i → ∀ j, j < reads.length → listed.getD j false = true := by
    intro listed hs hc i hi hm j hj
    obtain ⟨hun, o, ho, hd⟩ := mem_ready.1 hi
    have hisz := (Array.getElem?_eq_some_iff.1 ho).1
    exact closed_anc hA hc i o ho hd j ((hT0.2 i hisz).resolve_left (by omega) j (by omega))
  intro fuel
  induction fuel with
  | zero =>
    intro listed a w hf hi
    refine fin 0 listed a w hf hi fun j hj => ?_
    have hjs : j < listed.size := by have := hi.lsize; omega
    cases hl : listed.getD j false with
    | true => rfl
    | false =>
      exfalso
      have hv : listed[j] = false := by simpa [hjs] using hl
      have : 0 < listed.toList.count false := List.count_pos_iff.2 (by rw [← hv]; simp)
      omega
  | succ fuel ih =>
    intro listed a w hf hi
    by_cases hall : ∀ j, j < reads.length → listed.getD j false = true
    · exact fin (fuel + 1) listed a w hf hi hall
    refine ⟨fun h => absurd (fun j hj => all_of_ready rfl hA hi.lsize h j (by omega)) hall, fun i hir => ?_⟩
    have him : i < reads.length := by
      rcases Nat.lt_or_ge i reads.length with h | h
      · exact h
      · exact absurd (low listed hi.lsize hi.closed i hir h) hall
    obtain ⟨hun, o, ho, hdeps⟩ := mem_ready.1 hir
    have hisz : i < ops.size := (Array.getElem?_eq_some_iff.1 ho).1
    have hun' : listed.getD i false = false := by rw [getD_irrel (by rw [hi.lsize]; exact hisz) false true]; exact hun
    simp only [readsOk, List.all_eq_true] at hR
    have hRi := hR i (List.mem_range.2 him)
    have hri : reads[i]? = some (reads[i]'(by omega)) := List.getElem?_eq_getElem (by omega)
    generalize hrg : reads[i]'(by omega) = rg at hri
    obtain ⟨r, g⟩ := rg
    rw [ho, hri] at hRi
    simp only [Bool.and_eq_true, List.all_eq_true] at hRi
    obtain ⟨⟨hr, hdst⟩, hg⟩ := hRi
    -- ancestors of i are listed; descendants are not
    have hanc : ∀ k, (A.getD i 0).testBit k = true → listed.getD k false = true := closed_anc hA hi.closed i o ho hdeps
    have hdesc : ∀ j oj, ops[j]? = some oj → (A.getD j 0).testBit i = true → listed.getD j false = false := by
      intro j oj hoj hb
      cases hl : listed.getD j false with
      | false => rfl
      | true =>
        have := closed_anc hA hi.closed j oj hoj (hi.closed j oj hoj hl) i hb
        rw [this] at hun'; cases hun'
    have pair : ∀ i' j' oi' oj', i' < j' → ops[i']? = some oi' → ops[j']? = some oj' → (A.getD j' 0).testBit i' = true ∨ ((∀ t, oi'.dst = some t → t ∉ names ops oj') ∧ ∀ t, oj'.dst = some t → t ∉ oi'.looksAt ops) := by
      intro i' j' oi' oj' hlt hoi hoj
      have h1 := List.all_eq_true.1 hP j' (List.mem_range.2 (Array.getElem?_eq_some_iff.1 hoj).1)
      simp only [hoj, List.all_eq_true, List.mem_range] at h1
      have h2 := h1 i' hlt
      simp only [hoi, Bool.or_eq_true, Bool.and_eq_true] at h2
      rcases h2 with h2 | ⟨h2, h3⟩
      · exact .inl h2
      · refine .inr ⟨fun t ht => ?_, fun t ht => ?_⟩
        · simp [ht] at h2; exact h2
        · simp [ht] at h3; exact h3
    -- the writers that are listed of what i looks at are those ahead of it
    have hlook : ∀ t ∈ o.looksAt ops, lastW ops (fun j => listed.getD j false) t = lastW ops (fun j => decide (j < i)) t := by
      intro t ht
      refine lastW_congr fun j oj hoj hd => ?_
      rcases Nat.lt_trichotomy j i with hlt | rfl | hgt
      · have := (pair j i oj o hlt hoj ho).resolve_right (fun h => h.1 t hd (List.mem_append_right _ ht))
        simp [hlt, hanc j this]
      · simp [hun']
      · have := (pair i j o oj hgt ho hoj).resolve_right (fun h => h.2 t hd ht)
        rw [hdesc j oj hoj this]
        symm; simp; omega
    have hD : Deps V a0 a w r := by
      refine deps_of a w r fun ⟨t, j⟩ hx => ?_
      have h1 := hr (t, j) hx
      simp only [beq_iff_eq, List.contains_iff_mem] at h1
      have h2 := hi.tmps t
      rw [hlook t h1.1, h1.2] at h2
      cases j <;> exact h2
    have hgoal := opsHold_at ops.toList reads 0 i o r g hops (by simpa using ho) hri a w hi.step hD
    rw [Nat.zero_add] at hgoal
    -- behind operation i
    have next : ∀ v w', R w w' → V i w' v → wpAny P .any ops Q fuel (listed.setIfInBounds i true) (a.put o.dst v) w' := by
      intro v w' hww hv
      refine ih _ _ _ (unlisted_set hun fuel hf) ⟨htr _ _ _ hi.step hww, ?_, ?_, by simp [hi.lsize], ?_, fun j hj => ?_, ?_⟩
      · cases hd : o.dst <;> simp [Act.put, hi.size]
      · cases hd : o.dst <;> simp [Act.put, hi.defers]
      · intro j oj hoj hl e he hb
        by_cases hji : i = j
        · subst hji
          rw [ho] at hoj
          obtain rfl := Option.some.inj hoj
          by_cases hei : i = e.on
          · rw [← hei]; exact getD_set_self (by rw [hi.lsize]; exact hisz) _
          · rw [getD_set_other _ hei]; exact hdeps e he hb
        · rw [getD_set_other _ hji] at hl
          by_cases hei : i = e.on
          · rw [← hei]; exact getD_set_self (by rw [hi.lsize]; exact hisz) _
          · rw [getD_set_other _ hei]; exact hi.closed j oj hoj hl e he hb
      · rw [getD_set_other _ (by omega)]; exact hi.tail j hj
      · intro t
        by_cases hd : o.dst = some t
        · rw [lastW_set ho hd (p := fun j => (listed.setIfInBounds i true).getD j false) (getD_set_self (by rw [hi.lsize]; exact hisz) _) (fun j oj hoj hdj hlt => by
            have := (pair i j o oj hlt ho hoj).resolve_right (fun h => h.1 t hd (by simp [names, hdj]))
            rw [getD_set_other _ (by omega)]
            exact hdesc j oj hoj this)]
          have htn : t < a.tmps.size := by rw [hi.size]; simpa [hd] using hdst
          simp only [hd, Act.put]
          simpa [htn] using hv
        · rw [lastW_congr (q := fun j => listed.getD j false) (fun j oj hoj hdj => by
            by_cases hji : i = j
            · subst hji; rw [ho] at hoj; obtain rfl := Option.some.inj hoj; exact absurd hdj hd
            · exact getD_set_other _ hji)]
          have h2 := hi.tmps t
          have same : (a.put o.dst v).tmps[t]?.getD undef = a.tmps[t]?.getD undef := by
            cases hdd : o.dst with
            | none => rfl
            | some d =>
              have hne : d ≠ t := fun e => hd (by rw [hdd, e])
              simp [Act.put, Array.getElem?_setIfInBounds_ne hne]
          rw [same]
          revert h2
          cases lastW ops (fun j => listed.getD j false) t with
          | none => exact id
          | some j => exact hst j _ _ _ hww
    unfold wpOp
    simp only [ho]
    cases hgg : o.guard with
    | none =>
      rw [hgg] at hg
      cases g with
      | some _ => simp at hg
      | none =>
        rw [if_pos (by simp [Region.wanted, hgg])]
        exact .inl (hgoal _ next)
    | some kw =>
      obtain ⟨k, want⟩ := kw
      rw [hgg] at hg
      cases g with
      | none => simp at hg
      | some tw =>
        obtain ⟨t, want'⟩ := tw
        simp only [Bool.and_eq_true, beq_iff_eq] at hg
        obtain ⟨rfl, hk⟩ := hg
        have hw := wanted_iff (a := a) hgg hk
        by_cases hv : a.tmps[t]?.getD undef = .bool want
        · rw [if_pos (hw.2 hv)]
          exact .inl (hgoal.1 hv _ next)
        · rw [if_neg (fun h => hv (hw.1 h))]
          exact next undef w (hrf w) (hgoal.2 hv)

theorem endHold_at (v : Nat → Value) (w : World) (hR : R w0 w) : ∀ (fin : List (Tmp × Nat)) (F : World → Prop) (a : Act), EndHold R V w0 E F fin a → F w → (∀ x ∈ fin, V x.2 w (v x.1)) →
    E (fin.foldl (fun a x => a.put (some x.1) (v x.1)) a) w
  | [], _, _, h, hF, _ => h w hR hF
  | x :: fin, _, _, h, hF, hx => endHold_at v w hR fin _ _ (h (v x.1)) ⟨hF, hx x (by simp)⟩ (fun y hy => hx y (by simp [hy]))

theorem foldl_put (v : Nat → Value) : ∀ (fin : List (Tmp × Nat)) (a : Act),
    (fin.foldl (fun a x => a.put (some x.1) (v x.1)) a).tmps.size = a.tmps.size ∧ (fin.foldl (fun a x => a.put (some x.1) (v x.1)) a).defers = a.defers ∧
    ∀ t, t < a.tmps.size → (fin.foldl (fun a x => a.put (some x.1) (v x.1)) a).tmps[t]? = if t ∈ fin.map (·.1) then some (v t) else a.tmps[t]?
  | [], a => ⟨rfl, rfl, fun t _ => by simp⟩
  | x :: fin, a => by
    have h := foldl_put v fin (a.put (some x.1) (v x.1))
    simp only [List.foldl_cons]
    have hs : (a.put (some x.1) (v x.1)).tmps.size = a.tmps.size := by simp [Act.put]
    refine ⟨h.1.trans hs, h.2.1.trans rfl, fun t ht => ?_⟩
    rw [h.2.2 t (by rw [hs]; exact ht)]
    by_cases hm : t ∈ fin.map (·.1)
    · rw [if_pos hm, if_pos (by simp only [List.map_cons]; exact List.mem_cons_of_mem _ hm)]
    · rw [if_neg hm]
      by_cases hx : t = x.1
      · subst hx
        rw [if_pos (by simp)]
        simp [Act.put, ht]
      · rw [if_neg (by simp only [List.map_cons, List.mem_cons, not_or]; exact ⟨hx, hm⟩)]
        simp [Act.put, Array.getElem?_setIfInBounds_ne (Ne.symm hx)]

/-- **A region that draws its order, each operation by itself.** R: what may become of the world (reflexive, transitive); V i: what operation i leaves in its temporary (kept by R). Behind the head (as many operations as 'reads' has) the tail goes in the text's order. -/
theorem wp_region_each {id : Nat} {n : Nat} (V : Nat → World → Value → Prop) (R : World → World → Prop) (reads : List (Reads × GuardT)) (fin : List (Tmp × Nat)) {l : List Oper} (tail : List Oper) (hn : a0.tmps.size = n) (hk : regionOk l.toArray reads fin n = true) (hd : l.drop reads.length = tail) (hm : P.follows .mixedOrders = true)
    (hrf : ∀ w, R w w) (htr : ∀ a b c, R a b → R b c → R a c) (hst : ∀ i w w' v, R w w' → V i w v → V i w' v)
    (hops : OpsHold P Q R V a0 w0.drew 0 l reads)
    (hend : EndHold R V w0.drew (wpList P l.toArray Q tail) (fun _ => True) fin a0) :
    (Code.region id l.toArray true).wp P Q a0 w0 := by
  subst hn
  subst hd
  simp only [regionOk, Bool.and_eq_true] at hk
  obtain ⟨⟨⟨⟨hA, hP⟩, hR⟩, hF⟩, hT⟩ := hk
  refine wp_region_any hm ?_
  refine wpAny_inv (w0 := w0.drew) hA hP hR hT hrf htr hst hops ?_ _ _ _ _ (Nat.le_trans List.count_le_length (by simp)) ⟨hrf _, rfl, rfl, by simp, ?_, ?_, ?_⟩
  · intro listed a w hl hi
    simp only [finalOk, Bool.and_eq_true, List.all_eq_true, beq_iff_eq] at hF
    have hF2 : ∀ (j : Nat) (o : Oper) (t : Tmp), l.toArray[j]? = some o → j < reads.length → o.dst = some t → t ∈ fin.map (·.1) := by
      intro j o t ho hj hd
      have := hF.2 o (by
        have h1 : (l.take reads.length)[j]? = some o := by rw [List.getElem?_take_of_lt hj]; simpa using ho
        exact List.mem_of_getElem? h1)
      rw [hd] at this
      simpa using this
    have hlast : ∀ t, lastW l.toArray (fun j => listed.getD j false) t = lastW l.toArray (fun j => decide (j < reads.length)) t := fun t =>
      lastW_congr fun j o ho _ => hl j
    have e : fin.foldl (fun a' x => a'.put (some x.1) ((fun t => a.tmps[t]?.getD undef) x.1)) a0 = a := by
      have h := foldl_put (fun t => a.tmps[t]?.getD undef) fin a0
      have hd : (fin.foldl (fun a' x => a'.put (some x.1) ((fun t => a.tmps[t]?.getD undef) x.1)) a0).defers = a.defers := h.2.1.trans hi.defers.symm
      have ht : (fin.foldl (fun a' x => a'.put (some x.1) ((fun t => a.tmps[t]?.getD undef) x.1)) a0).tmps = a.tmps := by
        refine Array.ext_getElem? fun t => ?_
        rcases Nat.lt_or_ge t a0.tmps.size with hlt | hge
        · rw [h.2.2 t hlt]
          have hat : a.tmps[t]? = some (a.tmps[t]?.getD undef) := by
            have : t < a.tmps.size := by rw [hi.size]; exact hlt
            simp [this]
          by_cases hm : t ∈ fin.map (·.1)
          · rw [if_pos hm]; exact hat.symm
          · rw [if_neg hm]
            have h2 := hi.tmps t
            have hnone : lastW l.toArray (fun j => listed.getD j false) t = none := by
              unfold lastW
              rw [List.find?_eq_none]
              intro j _
              cases ho : l.toArray[j]? with
              | none => simp
              | some o =>
                by_cases hdo : o.dst = some t
                · rcases Nat.lt_or_ge j reads.length with hj | hj
                  · exact absurd (hF2 j o t ho hj hdo) hm
                  · simp only [hi.tail j hj]; simp
                · simp [hdo]
            rw [hnone] at h2
            rw [hat, h2]
            simp [hlt]
        · rw [Array.getElem?_eq_none (by rw [h.1]; exact hge), Array.getElem?_eq_none (by rw [hi.size]; exact hge)]
      generalize fin.foldl (fun a' x => a'.put (some x.1) ((fun t => a.tmps[t]?.getD undef) x.1)) a0 = z at hd ht
      cases z; cases a; simp_all
    have := endHold_at (fun t => a.tmps[t]?.getD undef) w hi.step fin _ a0 hend trivial (fun x hx => by
      have h1 := hF.1 x hx
      have h2 := hi.tmps x.1
      rw [hlast, h1] at h2
      exact h2)
    rw [e] at this
    exact this
  · intro j o ho hl
    exfalso
    have hj : j < l.length := by simpa using (Array.getElem?_eq_some_iff.1 ho).1
    simp [hj] at hl
  · intro j _
    rcases Nat.lt_or_ge j l.length with h | h
    · simp [h]
    · simp [h]
  · intro t
    have : lastW l.toArray (fun j => (Array.replicate l.toArray.size false).getD j false) t = none := by
      unfold lastW
      rw [List.find?_eq_none]
      intro j hj
      have hj : j < l.length := by simpa using hj
      simp [hj]
    rw [this]

/-- the predicates as a list -/
def at_ (Vs : List (World → Value → Prop)) (i : Nat) : World → Value → Prop := Vs.getD i (fun _ _ => True)
def Stable (R : World → World → Prop) : List (World → Value → Prop) → Prop
  | [] => True
  | V :: Vs => (∀ w w' v, R w w' → V w v → V w' v) ∧ Stable R Vs
theorem stable_at : ∀ (Vs : List (World → Value → Prop)), Stable R Vs → ∀ i w w' v, R w w' → at_ Vs i w v → at_ Vs i w' v
  | [], _, _, _, _, _, _, _ => trivial
  | _ :: _, h, 0, w, w', v, hr, hv => h.1 w w' v hr hv
  | _ :: Vs, h, i + 1, w, w', v, hr, hv => stable_at Vs h.2 i w w' v hr hv
end

/-- the world has only grown -/
def Grew (w w' : World) : Prop := Below w.heap.size w w'
theorem Grew.refl (w : World) : Grew w w := Below.refl _ _
theorem Grew.trans {a b c : World} (h : Grew a b) (k : Grew b c) : Grew a c := by
  have k' : Below a.heap.size b c := Below.mono k h.size
  exact Below.trans h k'
theorem Grew.drew (w : World) : Grew w w.drew := ⟨rfl, rfl, rfl, Nat.le_refl _, fun _ _ => rfl⟩
theorem Grew.drewN (w : World) (n : Nat) : Grew w (w.drewN n) := ⟨rfl, rfl, rfl, Nat.le_refl _, fun _ _ => rfl⟩
theorem Grew.alloc (w : World) (o : Obj) : Grew w (w.alloc o) := (Below.refl _ _).alloc (Nat.le_refl _) o

/-- exactly this value -/
def Is (x : Value) : World → Value → Prop := fun _ v => v = x
theorem Is.stable {R : World → World → Prop} (x : Value) : ∀ w w' v, R w w' → Is x w v → Is x w' v := fun _ _ _ _ h => h
/-- a call's end: it returns what V says, and the world has only grown -/
def Tells (w : World) (V : World → Value → Prop) (e : Ending) (w' : World) : Prop := ∃ v, e = .returned v ∧ V w' v ∧ Grew w w'
theorem tells_is {P : Program} {f : FuncId} {args : Array Value} {w : World} {x : Value} (h : Calls P f args w fun e w' => e = .returned x ∧ Below w.heap.size w w') : Calls P f args w (Tells w (Is x)) :=
  h.mono fun _ _ ⟨he, hw⟩ => ⟨x, he, rfl, hw⟩
theorem is_tells {P : Program} {f : FuncId} {args : Array Value} {w : World} {x : Value} (h : Calls P f args w (Tells w (Is x))) : Calls P f args w fun e w' => e = .returned x ∧ Below w.heap.size w w' :=
  h.mono fun _ _ ⟨_, he, hx, hw⟩ => ⟨hx ▸ he, hw⟩

section
variable {R : World → World → Prop} {V : Nat → World → Value → Prop} {w0 : World} {E : Act → World → Prop}
theorem endHold_mono : ∀ (fin : List (Tmp × Nat)) (F F' : World → Prop) (a : Act), (∀ w, F' w → F w) → EndHold R V w0 E F fin a → EndHold R V w0 E F' fin a
  | [], _, _, _, h, k => fun w hR hF => k w hR (h w hF)
  | _ :: fin, _, _, _, h, k => fun v => endHold_mono fin _ _ _ (fun w ⟨h1, h2⟩ => ⟨h w h1, h2⟩) (k v)
theorem endHold_never : ∀ (fin : List (Tmp × Nat)) (F : World → Prop) (a : Act), (∀ w, ¬ F w) → EndHold R V w0 E F fin a
  | [], _, _, h => fun w _ hF => absurd hF (h w)
  | _ :: fin, _, _, h => fun _ => endHold_never fin _ _ (fun w ⟨h1, _⟩ => h w h1)
/-- what comes later, closed to the eye -/
structure Later (E : Act → World → Prop) (a : Act) (w : World) : Prop where
  now : E a w
theorem endHold_later : ∀ (fin : List (Tmp × Nat)) (F : World → Prop) (a : Act), EndHold R V w0 (Later E) F fin a → EndHold R V w0 E F fin a
  | [], _, _, k => fun w hR hF => (k w hR hF).now
  | _ :: fin, _, _, k => fun v => endHold_later fin _ _ (k v)
/-- temporaries whose values are known -/
def AllIs (V : Nat → World → Value → Prop) : List (Tmp × Nat) → List Value → Prop
  | [], [] => True
  | (_, j) :: fin, x :: xs => V j = Is x ∧ AllIs V fin xs
  | _, _ => False
def putEach : List (Tmp × Nat) → List Value → Act → Act
  | (t, _) :: fin, x :: xs, a => putEach fin xs (a.put (some t) x)
  | _, _, a => a
theorem end_all : ∀ {fin : List (Tmp × Nat)} {xs : List Value} {F : World → Prop} {a : Act}, AllIs V fin xs → (∀ w, R w0 w → F w → E (putEach fin xs a) w) → EndHold R V w0 E F fin a
  | [], [], _, _, _, k => k
  | (t, j) :: fin, x :: xs, F, a, h, k => fun v => by
    by_cases e : v = x
    · subst e
      exact endHold_mono fin _ _ _ (fun _ h => h.1) (end_all h.2 k)
    · exact endHold_never fin _ _ (fun w ⟨_, h2⟩ => e (by rw [h.1] at h2; exact h2))
  | [], _ :: _, _, _, h, _ => h.elim
  | _ :: _, [], _, _, h, _ => h.elim
end
def dropN {α β : Type} : List α → List β → List β
  | [], l => l
  | _ :: _, [] => []
  | _ :: r, _ :: l => dropN r l
theorem dropN_eq {α β : Type} : ∀ (r : List α) (l : List β), l.drop r.length = dropN r l
  | [], l => by simp [dropN]
  | _ :: _, [] => by simp [dropN]
  | _ :: r, _ :: l => by simp [dropN, dropN_eq r l]

/-- the rule for a region whose world only grows, its predicates as a list -/
theorem region_grew {P : Program} {Q : Exit → Act → World → Prop} {a0 : Act} {w0 : World} {id : Nat} {n : Nat} {l : List Oper} (Vs : List (World → Value → Prop)) (reads : List (Reads × GuardT)) (fin : List (Tmp × Nat))
    (hn : a0.tmps.size = n) (hk : regionOk l.toArray reads fin n = true) (hm : P.follows .mixedOrders = true)
    (hst : Stable Grew Vs)
    (hops : OpsHold P Q Grew (at_ Vs) a0 w0.drew 0 l reads)
    (hend : EndHold Grew (at_ Vs) w0.drew (Later (wpList P l.toArray Q (dropN reads l))) (fun _ => True) fin a0) :
    (Code.region id l.toArray true).wp P Q a0 w0 :=
  wp_region_each (at_ Vs) Grew reads fin _ hn hk (dropN_eq reads l) hm Grew.refl (fun _ _ _ => Grew.trans) (stable_at Vs hst) hops (endHold_later _ _ _ hend)
/-! ### one operation that turns what was there -/

/-- float: it doesn't look at the world; plain: it comes before the big one; big: it may turn what was there -/
inductive Phase where
  | float | plain | big
  deriving DecidableEq
def phaseOk (A : List Nat) (ks : List Phase) (m : Nat) : Bool :=
  ks.length == m && (List.range m).all fun j => match ks[j]? with
    | some .big => (List.range m).all fun i => i == j || ks[i]? == some .float || (A.getD j 0).testBit i
    | _ => true

section
variable (P : Program) (Q : Exit → Act → World → Prop) (R Rp : World → World → Prop) (V : Nat → World → Value → Prop) (a0 : Act) (w0 : World) (E : Act → World → Prop)
def PhGoal (o : Oper) (g : GuardT) (i : Nat) (r : Reads) : Phase → Prop
  | .plain => ∀ a w, R w0 w → Deps V a0 a w r → OpGoal P Q R V o g i a w
  | .float => ∀ a w, Deps V a0 a w r → OpGoal P Q (fun w w' => w' = w) V o g i a w
  | .big => o.guard = none ∧ ∀ a w, R w0 w → Deps V a0 a w r → ∀ K : Act → World → Prop, (∀ v w', Rp w w' → V i w' v → K (a.put o.dst v) w') → o.wp P a w K Q
def PhHold : Nat → List Oper → List (Reads × GuardT) → List Phase → Prop
  | i, o :: os, (r, g) :: rs, k :: ks => PhGoal P Q R Rp V a0 w0 o g i r k ∧ PhHold (i + 1) os rs ks
  | _, _, _, _ => True
end

section
variable {P : Program} {ops : Array Oper} {Q : Exit → Act → World → Prop} {R Rp : World → World → Prop} {V : Nat → World → Value → Prop} {a0 : Act} {w0 : World} {E : Act → World → Prop}
theorem phHold_at : ∀ (os : List Oper) (rs : List (Reads × GuardT)) (ks : List Phase) (k i : Nat) (o : Oper) (r : Reads) (g : GuardT) (p : Phase), PhHold P Q R Rp V a0 w0 k os rs ks → os[i]? = some o → rs[i]? = some (r, g) → ks[i]? = some p →
    PhGoal P Q R Rp V a0 w0 o g (k + i) r p
  | [], _, _, _, i, o, r, g, p, _, ho, _, _ => by simp at ho
  | o' :: os, [], _, _, i, o, r, g, p, _, _, hr, _ => by simp at hr
  | o' :: os, (r', g') :: rs, [], _, i, o, r, g, p, _, _, _, hk => by simp at hk
  | o' :: os, (r', g') :: rs, p' :: ks, k, 0, o, r, g, p, h, ho, hr, hk => by
    simp at ho hr hk
    obtain ⟨rfl, rfl⟩ := hr
    subst ho
    subst hk
    exact h.1
  | o' :: os, (r', g') :: rs, p' :: ks, k, i + 1, o, r, g, p, h, ho, hr, hk => by
    have := phHold_at os rs ks (k + 1) i o r g p h.2 (by simpa using ho) (by simpa using hr) (by simpa using hk)
    rw [show k + 1 + i = k + (i + 1) from by omega] at this
    exact this
/-- the big one has come -/
def BigIn (ks : List Phase) (listed : Array Bool) : Prop := ∃ p, ks[p]? = some .big ∧ listed.getD p false = true
/-- what is known between two operations -/
structure InvB (ops : Array Oper) (m : Nat) (R Rp : World → World → Prop) (V : Nat → World → Value → Prop) (ks : List Phase) (a0 : Act) (w0 : World) (listed : Array Bool) (a : Act) (w : World) : Prop where
  early : ¬ BigIn ks listed → R w0 w
  late : BigIn ks listed → ∃ w1, R w0 w1 ∧ Rp w1 w
  size : a.tmps.size = a0.tmps.size
  defers : a.defers = a0.defers
  lsize : listed.size = ops.size
  closed : Closed ops listed
  tail : ∀ j, m ≤ j → listed.getD j false = false
  tmps : ∀ t, match lastW ops (fun j => listed.getD j false) t with
    | some j => V j w (a.tmps[t]?.getD undef)
    | none => a.tmps[t]?.getD undef = a0.tmps[t]?.getD undef
theorem lastW_listed {ops : Array Oper} {p : Nat → Bool} {t : Tmp} {j : Nat} (h : lastW ops p t = some j) : p j = true := by
  unfold lastW at h
  have := List.find?_some h
  simp only [Bool.and_eq_true] at this
  exact this.1
theorem wpAny_invB {A : List Nat} {reads : List (Reads × GuardT)} {ks : List Phase} (hA : edgesOk ops A = true) (hP : pairsOk ops A = true) (hR : readsOk ops reads a0.tmps.size = true) (hT : tailOk ops A reads.length = true)
    (hrf : ∀ w, R w w) (htr : ∀ a b c, R a b → R b c → R a c) (hK : phaseOk A ks reads.length = true)
    (hst : ∀ i, ks[i]? ≠ some .big → ∀ w w' v, R w w' ∨ Rp w w' → V i w v → V i w' v)
    (hops : PhHold P Q R Rp V a0 w0 0 ops.toList reads ks)
    (hend : ∀ listed a w, (∀ j, listed.getD j false = decide (j < reads.length)) → InvB ops reads.length R Rp V ks a0 w0 listed a w → wpList P ops Q (ops.toList.drop reads.length) a w) :
    ∀ (fuel : Nat) (listed : Array Bool) (a : Act) (w : World), listed.toList.count false ≤ fuel → InvB ops reads.length R Rp V ks a0 w0 listed a w → wpAny P .any ops Q fuel listed a w := by
  have hT0 := hT
  simp only [tailOk, Bool.and_eq_true, decide_eq_true_eq, List.all_eq_true, Bool.or_eq_true, List.mem_range] at hT0
  -- when all of the head has come up
  have fin : ∀ (fuel : Nat) (listed : Array Bool) (a : Act) (w : World), listed.toList.count false ≤ fuel → InvB ops reads.length R Rp V ks a0 w0 listed a w → (∀ j, j < reads.length → listed.getD j false = true) → wpAny P .any ops Q fuel listed a w := by
    intro fuel listed a w hf hi hall
    have hl : ∀ j, listed.getD j false = decide (j < reads.length) := by
      intro j
      rcases Nat.lt_or_ge j reads.length with h | h
      · rw [hall j h]; simp [h]
      · rw [hi.tail j h]; simp; omega
    refine wpAny_tail hA hT fuel reads.length listed a w (Nat.le_refl _) ?_ hT0.1 hi.lsize hl (hend listed a w hl hi)
    -- those that are not listed are as many as the tail is long
    have : (listed.toList.drop reads.length).count false = listed.size - reads.length := by
      have h1 : listed.toList.drop reads.length = List.replicate (listed.size - reads.length) false := by
        refine List.ext_getElem (by simp) fun j h1 h2 => ?_
        simp only [List.getElem_drop, List.getElem_replicate]
        have h3 : reads.length + j < listed.size := by simp at h1; omega
        have h4 := hi.tail (reads.length + j) (by omega)
        simpa [h3] using h4
      rw [h1, List.count_replicate_self]
    have h2 : (listed.toList.drop reads.length).count false ≤ listed.toList.count false := List.Sublist.count_le _ (List.drop_sublist _ _)
    have := hi.lsize
    omega
  -- before that, nothing of the tail may come up
  have low : ∀ (listed : Array Bool), listed.size = ops.size → Closed ops listed → ∀ i, i ∈ Region.ready .any ops listed → reads.length ≤ i → ∀ j, j < reads.length → listed.getD j false = true := by
    intro listed hs hc i hi hm j hj
    obtain ⟨hun, o, ho, hd⟩ := mem_ready.1 hi
    have hisz := (Array.getElem?_eq_some_iff.1 ho).1
    exact closed_anc hA hc i o ho hd j ((hT0.2 i hisz).resolve_left (by omega) j (by omega))
  intro fuel
  induction fuel with
  | zero =>
    intro listed a w hf hi
    refine fin 0 listed a w hf hi fun j hj => ?_
    have hjs : j < listed.size := by have := hi.lsize; omega
    cases hl : listed.getD j false with
    | true => rfl
    | false =>
      exfalso
      have hv : listed[j] = false := by simpa [hjs] using hl
      have : 0 < listed.toList.count false := List.count_pos_iff.2 (by rw [← hv]; simp)
      omega
  | succ fuel ih =>
    intro listed a w hf hi
    by_cases hall : ∀ j, j < reads.length → listed.getD j false = true
    · exact fin (fuel + 1) listed a w hf hi hall
    refine ⟨fun h => absurd (fun j hj => all_of_ready rfl hA hi.lsize h j (by omega)) hall, fun i hir => ?_⟩
    have him : i < reads.length := by
      rcases Nat.lt_or_ge i reads.length with h | h
      · exact h
      · exact absurd (low listed hi.lsize hi.closed i hir h) hall
    obtain ⟨hun, o, ho, hdeps⟩ := mem_ready.1 hir
    have hisz : i < ops.size := (Array.getElem?_eq_some_iff.1 ho).1
    have hun' : listed.getD i false = false := by rw [getD_irrel (by rw [hi.lsize]; exact hisz) false true]; exact hun
    simp only [readsOk, List.all_eq_true] at hR
    have hRi := hR i (List.mem_range.2 him)
    have hri : reads[i]? = some (reads[i]'(by omega)) := List.getElem?_eq_getElem (by omega)
    generalize hrg : reads[i]'(by omega) = rg at hri
    obtain ⟨r, g⟩ := rg
    rw [ho, hri] at hRi
    simp only [Bool.and_eq_true, List.all_eq_true] at hRi
    obtain ⟨⟨hr, hdst⟩, hg⟩ := hRi
    -- ancestors of i are listed; descendants are not
    have hanc : ∀ k, (A.getD i 0).testBit k = true → listed.getD k false = true := closed_anc hA hi.closed i o ho hdeps
    have hdesc : ∀ j oj, ops[j]? = some oj → (A.getD j 0).testBit i = true → listed.getD j false = false := by
      intro j oj hoj hb
      cases hl : listed.getD j false with
      | false => rfl
      | true =>
        have := closed_anc hA hi.closed j oj hoj (hi.closed j oj hoj hl) i hb
        rw [this] at hun'; cases hun'
    have pair : ∀ i' j' oi' oj', i' < j' → ops[i']? = some oi' → ops[j']? = some oj' → (A.getD j' 0).testBit i' = true ∨ ((∀ t, oi'.dst = some t → t ∉ names ops oj') ∧ ∀ t, oj'.dst = some t → t ∉ oi'.looksAt ops) := by
      intro i' j' oi' oj' hlt hoi hoj
      have h1 := List.all_eq_true.1 hP j' (List.mem_range.2 (Array.getElem?_eq_some_iff.1 hoj).1)
      simp only [hoj, List.all_eq_true, List.mem_range] at h1
      have h2 := h1 i' hlt
      simp only [hoi, Bool.or_eq_true, Bool.and_eq_true] at h2
      rcases h2 with h2 | ⟨h2, h3⟩
      · exact .inl h2
      · refine .inr ⟨fun t ht => ?_, fun t ht => ?_⟩
        · simp [ht] at h2; exact h2
        · simp [ht] at h3; exact h3
    -- the writers that are listed of what i looks at are those ahead of it
    have hlook : ∀ t ∈ o.looksAt ops, lastW ops (fun j => listed.getD j false) t = lastW ops (fun j => decide (j < i)) t := by
      intro t ht
      refine lastW_congr fun j oj hoj hd => ?_
      rcases Nat.lt_trichotomy j i with hlt | rfl | hgt
      · have := (pair j i oj o hlt hoj ho).resolve_right (fun h => h.1 t hd (List.mem_append_right _ ht))
        simp [hlt, hanc j this]
      · simp [hun']
      · have := (pair i j o oj hgt ho hoj).resolve_right (fun h => h.2 t hd ht)
        rw [hdesc j oj hoj this]
        symm; simp; omega
    have hD : Deps V a0 a w r := by
      refine deps_of a w r fun ⟨t, j⟩ hx => ?_
      have h1 := hr (t, j) hx
      simp only [beq_iff_eq, List.contains_iff_mem] at h1
      have h2 := hi.tmps t
      rw [hlook t h1.1, h1.2] at h2
      cases j <;> exact h2
    simp only [phaseOk, Bool.and_eq_true, beq_iff_eq, List.all_eq_true, List.mem_range] at hK
    have hki : ks[i]? = some (ks[i]'(by omega)) := List.getElem?_eq_getElem (by omega)
    generalize hkk : ks[i]'(by omega) = kd at hki
    have hgoal := phHold_at ops.toList reads ks 0 i o r g kd hops (by simpa using ho) hri hki
    rw [Nat.zero_add] at hgoal
    have big_all : ∀ p, ks[p]? = some .big → ∀ j, j < reads.length → j ≠ p → ks[j]? = some .float ∨ (A.getD p 0).testBit j = true := by
      intro p hp j hj hne
      have hpl : p < reads.length := by
        have := (List.getElem?_eq_some_iff.1 hp).1
        omega
      have := hK.2 p hpl
      rw [hp] at this
      simp only [List.all_eq_true, List.mem_range, Bool.or_eq_true, beq_iff_eq] at this
      rcases this j hj with (h | h) | h
      · exact absurd h hne
      · exact .inl h
      · exact .inr h
    have noBig : kd ≠ .float → ¬ BigIn ks listed := by
      rintro hne ⟨p, hp, hl⟩
      by_cases hip : i = p
      · subst hip; rw [hun'] at hl; cases hl
      · rcases big_all p hp i him hip with h | h
        · rw [hki] at h; exact hne (Option.some.inj h)
        · have hpo : p < ops.size := by
            rcases Nat.lt_or_ge p ops.size with h' | h'
            · exact h'
            · rw [show listed.getD p false = false from by simp [Array.getElem?_eq_none (show listed.size ≤ p by rw [hi.lsize]; exact h')]] at hl; cases hl
          have := closed_anc hA hi.closed p _ (Array.getElem?_eq_getElem hpo) (hi.closed p _ (Array.getElem?_eq_getElem hpo) hl) i h
          rw [this] at hun'; cases hun'
    have bigSet : ∀ {k : Phase}, kd = k → k ≠ .big → (BigIn ks (listed.setIfInBounds i true) ↔ BigIn ks listed) := by
      intro k hk hne
      constructor
      · rintro ⟨p, hp, hl⟩
        by_cases hip : i = p
        · subst hip; rw [hki] at hp; exact absurd (hk.symm.trans (Option.some.inj hp)) hne
        · rw [getD_set_other _ hip] at hl; exact ⟨p, hp, hl⟩
      · rintro ⟨p, hp, hl⟩
        by_cases hip : i = p
        · subst hip; rw [hun'] at hl; cases hl
        · exact ⟨p, hp, by rw [getD_set_other _ hip]; exact hl⟩
    have notBig : ∀ j, listed.getD j false = true → ¬ BigIn ks listed → ks[j]? ≠ some .big := fun j hl hb h => hb ⟨j, h, hl⟩
    -- behind operation i
    have next : ∀ v w', (∀ j, j ≠ i → listed.getD j false = true → ∀ u, V j w u → V j w' u) → (¬ BigIn ks (listed.setIfInBounds i true) → R w0 w') → (BigIn ks (listed.setIfInBounds i true) → ∃ w1, R w0 w1 ∧ Rp w1 w') → V i w' v → wpAny P .any ops Q fuel (listed.setIfInBounds i true) (a.put o.dst v) w' := by
      intro v w' hww he hl hv
      refine ih _ _ _ (unlisted_set hun fuel hf) ⟨he, hl, ?_, ?_, by simp [hi.lsize], ?_, fun j hj => ?_, ?_⟩
      · cases hd : o.dst <;> simp [Act.put, hi.size]
      · cases hd : o.dst <;> simp [Act.put, hi.defers]
      · intro j oj hoj hl e he hb
        by_cases hji : i = j
        · subst hji
          rw [ho] at hoj
          obtain rfl := Option.some.inj hoj
          by_cases hei : i = e.on
          · rw [← hei]; exact getD_set_self (by rw [hi.lsize]; exact hisz) _
          · rw [getD_set_other _ hei]; exact hdeps e he hb
        · rw [getD_set_other _ hji] at hl
          by_cases hei : i = e.on
          · rw [← hei]; exact getD_set_self (by rw [hi.lsize]; exact hisz) _
          · rw [getD_set_other _ hei]; exact hi.closed j oj hoj hl e he hb
      · rw [getD_set_other _ (by omega)]; exact hi.tail j hj
      · intro t
        by_cases hd : o.dst = some t
        · rw [lastW_set ho hd (p := fun j => (listed.setIfInBounds i true).getD j false) (getD_set_self (by rw [hi.lsize]; exact hisz) _) (fun j oj hoj hdj hlt => by
            have := (pair i j o oj hlt ho hoj).resolve_right (fun h => h.1 t hd (by simp [names, hdj]))
            rw [getD_set_other _ (by omega)]
            exact hdesc j oj hoj this)]
          have htn : t < a.tmps.size := by rw [hi.size]; simpa [hd] using hdst
          simp only [hd, Act.put]
          simpa [htn] using hv
        · rw [lastW_congr (q := fun j => listed.getD j false) (fun j oj hoj hdj => by
            by_cases hji : i = j
            · subst hji; rw [ho] at hoj; obtain rfl := Option.some.inj hoj; exact absurd hdj hd
            · exact getD_set_other _ hji)]
          have h2 := hi.tmps t
          have same : (a.put o.dst v).tmps[t]?.getD undef = a.tmps[t]?.getD undef := by
            cases hdd : o.dst with
            | none => rfl
            | some d =>
              have hne : d ≠ t := fun e => hd (by rw [hdd, e])
              simp [Act.put, Array.getElem?_setIfInBounds_ne hne]
          rw [same]
          revert h2
          cases hlw : lastW ops (fun j => listed.getD j false) t with
          | none => exact id
          | some j =>
            have hlj := lastW_listed hlw
            refine hww j ?_ hlj _
            intro e
            subst e
            rw [hun'] at hlj
            cases hlj
    unfold wpOp
    simp only [ho]
    cases kd with
    | big =>
      obtain ⟨hgn, hgoal⟩ := hgoal
      have hnb := noBig (by simp)
      rw [if_pos (by simp [Region.wanted, hgn])]
      refine .inl (hgoal a w (hi.early hnb) hD _ fun v w' hrp hv => ?_)
      have hbig : BigIn ks (listed.setIfInBounds i true) := ⟨i, hki, getD_set_self (by rw [hi.lsize]; exact hisz) _⟩
      exact next v w' (fun j _ hl u hu => hst j (notBig j hl hnb) w w' u (.inr hrp) hu) (fun h => absurd hbig h) (fun _ => ⟨w, hi.early hnb, hrp⟩) hv
    | plain =>
      have hnb := noBig (by simp)
      have hgoal := hgoal a w (hi.early hnb) hD
      have hs := bigSet rfl (by simp)
      have nx : ∀ v w', R w w' → V i w' v → wpAny P .any ops Q fuel (listed.setIfInBounds i true) (a.put o.dst v) w' := fun v w' hr hv =>
        next v w' (fun j _ hl u hu => hst j (notBig j hl hnb) w w' u (.inl hr) hu) (fun _ => htr _ _ _ (hi.early hnb) hr) (fun h => absurd (hs.1 h) hnb) hv
      cases hgg : o.guard with
      | none =>
        rw [hgg] at hg
        cases g with
        | some _ => simp at hg
        | none =>
          rw [if_pos (by simp [Region.wanted, hgg])]
          exact .inl (hgoal _ nx)
      | some kw =>
        obtain ⟨k, want⟩ := kw
        rw [hgg] at hg
        cases g with
        | none => simp at hg
        | some tw =>
          obtain ⟨t, want'⟩ := tw
          simp only [Bool.and_eq_true, beq_iff_eq] at hg
          obtain ⟨rfl, hk⟩ := hg
          have hw := wanted_iff (a := a) hgg hk
          by_cases hv : a.tmps[t]?.getD undef = .bool want
          · rw [if_pos (hw.2 hv)]
            exact .inl (hgoal.1 hv _ nx)
          · rw [if_neg (fun h => hv (hw.1 h))]
            exact nx undef w (hrf w) (hgoal.2 hv)
    | float =>
      have hgoal := hgoal a w hD
      have hs := bigSet rfl (by simp)
      have nx : ∀ v w', w' = w → V i w' v → wpAny P .any ops Q fuel (listed.setIfInBounds i true) (a.put o.dst v) w' := fun v w' hr hv => by
        subst hr
        exact next v w' (fun j _ _ u hu => hu) (fun h => hi.early (fun hb => h (hs.2 hb))) (fun h => hi.late (hs.1 h)) hv
      cases hgg : o.guard with
      | none =>
        rw [hgg] at hg
        cases g with
        | some _ => simp at hg
        | none =>
          rw [if_pos (by simp [Region.wanted, hgg])]
          exact .inl (hgoal _ nx)
      | some kw =>
        obtain ⟨k, want⟩ := kw
        rw [hgg] at hg
        cases g with
        | none => simp at hg
        | some tw =>
          obtain ⟨t, want'⟩ := tw
          simp only [Bool.and_eq_true, beq_iff_eq] at hg
          obtain ⟨rfl, hk⟩ := hg
          have hw := wanted_iff (a := a) hgg hk
          by_cases hv : a.tmps[t]?.getD undef = .bool want
          · rw [if_pos (hw.2 hv)]
            exact .inl (hgoal.1 hv _ nx)
          · rw [if_neg (fun h => hv (hw.1 h))]
            exact nx undef w rfl (hgoal.2 hv)
end

section
variable {P : Program} {Q : Exit → Act → World → Prop} {V : Nat → World → Value → Prop} {a0 : Act} {w0 : World} {E : Act → World → Prop}
theorem wp_region_big {id : Nat} {n : Nat} (ks : List Phase) (V : Nat → World → Value → Prop) (R Rp : World → World → Prop) (reads : List (Reads × GuardT)) (fin : List (Tmp × Nat)) {l : List Oper} (tail : List Oper) (hn : a0.tmps.size = n) (hk : regionOk l.toArray reads fin n = true) (hd : l.drop reads.length = tail) (hm : P.follows .mixedOrders = true)
    (hrf : ∀ w, R w w) (htr : ∀ a b c, R a b → R b c → R a c) (hK : phaseOk (mkAnc l) ks reads.length = true) (hb : ks.contains .big = true)
    (hst : ∀ i, ks[i]? ≠ some .big → ∀ w w' v, R w w' ∨ Rp w w' → V i w v → V i w' v)
    (hops : PhHold P Q R Rp V a0 w0.drew 0 l reads ks)
    (hend : EndHold (fun w w' => ∃ w1, R w w1 ∧ Rp w1 w') V w0.drew (wpList P l.toArray Q tail) (fun _ => True) fin a0) :
    (Code.region id l.toArray true).wp P Q a0 w0 := by
  subst hn
  subst hd
  simp only [regionOk, Bool.and_eq_true] at hk
  obtain ⟨⟨⟨⟨hA, hP⟩, hR⟩, hF⟩, hT⟩ := hk
  refine wp_region_any hm ?_
  refine wpAny_invB (Rp := Rp) (ks := ks) (w0 := w0.drew) hA hP hR hT hrf htr hK hst hops ?_ _ _ _ _ (Nat.le_trans List.count_le_length (by simp)) ⟨fun _ => hrf _, ?_, rfl, rfl, by simp, ?_, ?_, ?_⟩
  · intro listed a w hl hi
    simp only [finalOk, Bool.and_eq_true, List.all_eq_true, beq_iff_eq] at hF
    have hF2 : ∀ (j : Nat) (o : Oper) (t : Tmp), l.toArray[j]? = some o → j < reads.length → o.dst = some t → t ∈ fin.map (·.1) := by
      intro j o t ho hj hd
      have := hF.2 o (by
        have h1 : (l.take reads.length)[j]? = some o := by rw [List.getElem?_take_of_lt hj]; simpa using ho
        exact List.mem_of_getElem? h1)
      rw [hd] at this
      simpa using this
    have hlast : ∀ t, lastW l.toArray (fun j => listed.getD j false) t = lastW l.toArray (fun j => decide (j < reads.length)) t := fun t =>
      lastW_congr fun j o ho _ => hl j
    have e : fin.foldl (fun a' x => a'.put (some x.1) ((fun t => a.tmps[t]?.getD undef) x.1)) a0 = a := by
      have h := foldl_put (fun t => a.tmps[t]?.getD undef) fin a0
      have hd : (fin.foldl (fun a' x => a'.put (some x.1) ((fun t => a.tmps[t]?.getD undef) x.1)) a0).defers = a.defers := h.2.1.trans hi.defers.symm
      have ht : (fin.foldl (fun a' x => a'.put (some x.1) ((fun t => a.tmps[t]?.getD undef) x.1)) a0).tmps = a.tmps := by
        refine Array.ext_getElem? fun t => ?_
        rcases Nat.lt_or_ge t a0.tmps.size with hlt | hge
        · rw [h.2.2 t hlt]
          have hat : a.tmps[t]? = some (a.tmps[t]?.getD undef) := by
            have : t < a.tmps.size := by rw [hi.size]; exact hlt
            simp [this]
          by_cases hm : t ∈ fin.map (·.1)
          · rw [if_pos hm]; exact hat.symm
          · rw [if_neg hm]
            have h2 := hi.tmps t
            have hnone : lastW l.toArray (fun j => listed.getD j false) t = none := by
              unfold lastW
              rw [List.find?_eq_none]
              intro j _
              cases ho : l.toArray[j]? with
              | none => simp
              | some o =>
                by_cases hdo : o.dst = some t
                · rcases Nat.lt_or_ge j reads.length with hj | hj
                  · exact absurd (hF2 j o t ho hj hdo) hm
                  · simp only [hi.tail j hj]; simp
                · simp [hdo]
            rw [hnone] at h2
            rw [hat, h2]
            simp [hlt]
        · rw [Array.getElem?_eq_none (by rw [h.1]; exact hge), Array.getElem?_eq_none (by rw [hi.size]; exact hge)]
      generalize fin.foldl (fun a' x => a'.put (some x.1) ((fun t => a.tmps[t]?.getD undef) x.1)) a0 = z at hd ht
      cases z; cases a; simp_all
    have hbin : BigIn ks listed := by
      have hmem := List.contains_iff_mem.1 hb
      obtain ⟨p, hp⟩ := List.mem_iff_getElem?.1 hmem
      refine ⟨p, hp, ?_⟩
      rw [hl p]
      have h1 := (List.getElem?_eq_some_iff.1 hp).1
      have h2 := hK
      simp only [phaseOk, Bool.and_eq_true, beq_iff_eq] at h2
      simp; omega
    have := endHold_at (fun t => a.tmps[t]?.getD undef) w (hi.late hbin) fin _ a0 hend trivial (fun x hx => by
      have h1 := hF.1 x hx
      have h2 := hi.tmps x.1
      rw [hlast, h1] at h2
      exact h2)
    rw [e] at this
    exact this
  · rintro ⟨p, _, hp⟩
    exfalso
    rcases Nat.lt_or_ge p l.length with h | h
    · simp [h] at hp
    · simp [h] at hp
  · intro j o ho hl
    exfalso
    have hj : j < l.length := by simpa using (Array.getElem?_eq_some_iff.1 ho).1
    simp [hj] at hl
  · intro j _
    rcases Nat.lt_or_ge j l.length with h | h
    · simp [h]
    · simp [h]
  · intro t
    have : lastW l.toArray (fun j => (Array.replicate l.toArray.size false).getD j false) t = none := by
      unfold lastW
      rw [List.find?_eq_none]
      intro j hj
      have hj : j < l.length := by simpa using hj
      simp [hj]
    rw [this]


end

/-- the predicates of all but the big one are kept by both -/
def StableB (R Rp : World → World → Prop) : List Phase → List (World → Value → Prop) → Prop
  | k :: ks, V :: Vs => (k ≠ .big → ∀ w w' v, R w w' ∨ Rp w w' → V w v → V w' v) ∧ StableB R Rp ks Vs
  | _, _ => True
theorem stableB_at {R Rp : World → World → Prop} : ∀ (ks : List Phase) (Vs : List (World → Value → Prop)), ks.length = Vs.length → StableB R Rp ks Vs → ∀ i, ks[i]? ≠ some .big → ∀ w w' v, R w w' ∨ Rp w w' → at_ Vs i w v → at_ Vs i w' v
  | [], [], _, _, _, _, _, _, _, _, _ => trivial
  | k :: ks, V :: Vs, hl, h, 0, hn, w, w', v, hr, hv => h.1 (fun e => hn (by simp [e])) w w' v hr hv
  | k :: ks, V :: Vs, hl, h, i + 1, hn, w, w', v, hr, hv => stableB_at ks Vs (by simpa using hl) h.2 i (by simpa using hn) w w' v hr hv
theorem Is.stableB {R Rp : World → World → Prop} (x : Value) : ∀ w w' v, R w w' ∨ Rp w w' → Is x w v → Is x w' v := fun _ _ _ _ h => h
theorem region_big {P : Program} {Q : Exit → Act → World → Prop} {a0 : Act} {w0 : World} {id : Nat} {n : Nat} {l : List Oper} (Rp : World → World → Prop) (ks : List Phase) (Vs : List (World → Value → Prop)) (reads : List (Reads × GuardT)) (fin : List (Tmp × Nat))
    (hn : a0.tmps.size = n) (hk : regionOk l.toArray reads fin n = true) (hK : phaseOk (mkAnc l) ks reads.length = true) (hb : ks.contains .big = true) (hm : P.follows .mixedOrders = true) (hv : ks.length = Vs.length)
    (hst : StableB Grew Rp ks Vs)
    (hops : PhHold P Q Grew Rp (at_ Vs) a0 w0.drew 0 l reads ks)
    (hend : EndHold (fun w w' => ∃ w1, Grew w w1 ∧ Rp w1 w') (at_ Vs) w0.drew (Later (wpList P l.toArray Q (dropN reads l))) (fun _ => True) fin a0) :
    (Code.region id l.toArray true).wp P Q a0 w0 :=
  wp_region_big ks (at_ Vs) Grew Rp reads fin _ hn hk (dropN_eq reads l) hm Grew.refl (fun _ _ _ => Grew.trans) hK hb (stableB_at ks Vs hv hst) hops (endHold_later _ _ _ hend)
end Go.Proofs.YtmifoihfpjomaaaR

-- Own
namespace Go.Proofs.Ytmifoihfpjomaaa.F
open Go Go.RowKit Go.Proofs.YtmifoihfpjomaaaW.PrintWords Go.Proofs.YtmifoihfpjomaaaW.PrintLast Go.Proofs.YtmifoihfpjomaaaW.PrintMore Go.Proofs.YtmifoihfpjomaaaR
theorem reads_of {A : Option Addr} {n : Nat} {l : List Int} {w : World} {k : IntKind} (h : Kd.C (Kd.int k) w A n l) : ReadsInt w k A n l :=
  Kd.reads_of_C (enc := Value.int k) (d := (0 : Int)) (h1 := fun _ => rfl) h
theorem C_of {A : Option Addr} {n : Nat} {l : List Int} {w : World} {k : IntKind} (h : ReadsInt w k A n l) : Kd.C (Kd.int k) w A n l :=
  Kd.C_of_reads (d := (0 : Int)) (h1 := fun _ => rfl) h
theorem own_head {w : World} {base : Nat} {e : TypeId} {v : Value} {k : IntKind} {l : List Int} {n : Nat} (h : w.ownsRow base e 1 v n (nums k l)) (hl : 0 < n) :
    ∃ g cap, v = .slice (some ⟨g, 0, none⟩) n cap ∧ base ≤ g ∧ g < w.heap.size ∧ n ≤ cap := by
  obtain ⟨_, ⟨_, h0⟩ | ⟨g, cap, cur, rfl, hb, hg, hc, _⟩⟩ := h
  · omega
  · exact ⟨g, cap, rfl, hb, (Array.getElem?_eq_some_iff.1 hg).1, hc⟩
/-- a row of the call's own may be read like one that came in -/
theorem own_C {w : World} {base n : Nat} {e : TypeId} {k : IntKind} {v : Value} {l : List Int} (h : w.ownsRow base e 1 v n (nums k l)) : ∃ A c, v = .slice A n c ∧ l.length = n ∧ n ≤ c ∧ Kd.C (Kd.int k) w A n l := by
  have hl : l.length = n := by have := h.1; simp [nums] at this; exact this
  obtain ⟨A, c, rfl, hr⟩ := own_reads h
  refine ⟨A, c, rfl, hl, own_le h, C_of hr⟩
end Go.Proofs.Ytmifoihfpjomaaa.F

-- Upd
namespace Go.Proofs.Ytmifoihfpjomaaa.F
open Go Go.RowKit Go.Proofs.YtmifoihfpjomaaaW.PrintWords Go.Proofs.YtmifoihfpjomaaaW.PrintLast Go.Proofs.YtmifoihfpjomaaaW.PrintMore Go.Proofs.YtmifoihfpjomaaaR
set_option linter.unusedSimpArgs false
set_option linter.unusedVariables false
/-- all but the blocks of S stays -/
structure Upd (S : Nat → Prop) (w w' : World) : Prop where
  os : w'.os = w.os
  tape : w'.tape = w.tape
  output : w'.output = w.output
  size : w.heap.size ≤ w'.heap.size
  block : ∀ k, k < w.heap.size → ¬ S k → w'.heap[k]? = w.heap[k]?
theorem Upd.refl (S : Nat → Prop) (w : World) : Upd S w w := ⟨rfl, rfl, rfl, Nat.le_refl _, fun _ _ _ => rfl⟩
theorem Upd.of_grew {S : Nat → Prop} {w w' : World} (h : Grew w w') : Upd S w w' := ⟨h.os, h.tape, h.output, h.size, fun k hk _ => h.block k hk⟩
theorem Upd.then_ {S S2 : Nat → Prop} {a b c : World} (h : Upd S a b) (k : Upd S2 b c) (hs : ∀ i, i < a.heap.size → S2 i → S i) : Upd S a c :=
  ⟨k.os.trans h.os, k.tape.trans h.tape, k.output.trans h.output, Nat.le_trans h.size k.size, fun i hi hn => (k.block i (Nat.lt_of_lt_of_le hi h.size) (fun h2 => hn (hs i hi h2))).trans (h.block i hi hn)⟩
theorem Upd.trans {S : Nat → Prop} {a b c : World} (h : Upd S a b) (k : Upd S b c) : Upd S a c := h.then_ k fun _ _ h => h
theorem Upd.mono {S S2 : Nat → Prop} {a b : World} (h : Upd S a b) (hs : ∀ i, i < a.heap.size → S i → S2 i) : Upd S2 a b :=
  ⟨h.os, h.tape, h.output, h.size, fun i hi hn => h.block i hi (fun h2 => hn (hs i hi h2))⟩
theorem Upd.grew {S : Nat → Prop} {a b : World} (h : Upd S a b) (hs : ∀ i, i < a.heap.size → ¬ S i) : Grew a b := ⟨h.os, h.tape, h.output, h.size, fun i hi => h.block i hi (hs i hi)⟩
theorem Upd.below {S : Nat → Prop} {a b : World} {B : Nat} (h : Upd S a b) (hB : B ≤ a.heap.size) (hs : ∀ i, S i → B ≤ i) : Below B a b :=
  ⟨h.os, h.tape, h.output, h.size, fun i hi => h.block i (Nat.lt_of_lt_of_le hi hB) (fun h2 => by have := hs i h2; omega)⟩
theorem Upd.set {S : Nat → Prop} {a b : World} (h : Upd S a b) {p : Addr} (hp : S p.block ∨ a.heap.size ≤ p.block) (u : Value) : Upd S a (b.setCell p u) :=
  ⟨h.os, h.tape, h.output, by simp [World.setCell]; exact h.size, fun i hi hn => by
    rw [Below.heap_setCell b p u i (fun e => by subst e; rcases hp with hp | hp; exact hn hp; omega)]
    exact h.block i hi hn⟩
theorem Upd.kept {S : Nat → Prop} {a b : World} (h : Upd S a b) : Kept a b S := ⟨h.size, fun i hi hn => h.block i hi hn⟩
theorem Upd.blk {S : Nat → Prop} {a b : World} {g : Nat} {o : Obj} (h : Upd S a b) (hb : a.heap[g]? = some o) (hn : ¬ S g) : b.heap[g]? = some o := (h.block g (blk_lt hb) hn).trans hb
theorem Upd.cell {S : Nat → Prop} {a b : World} {p : Addr} {v : Value} (h : Upd S a b) (hb : a.cell? p = some v) (hn : ¬ S p.block) : b.cell? p = some v := cell_kept hb h.kept hn
theorem Upd.grown {S : Nat → Prop} {a b c : World} {row : Option Nat} (h : Upd S a b) (hg : b.grownBy c row) (hr : ∀ k, row = some k → S k ∨ a.heap.size ≤ k) : Upd S a c :=
  ⟨hg.os.trans h.os, hg.tape.trans h.tape, hg.output.trans h.output, Nat.le_trans h.size hg.size, fun i hi hn => (hg.block i (Nat.lt_of_lt_of_le hi h.size) (fun e => by rcases hr i e.symm with h2 | h2; exact hn h2; omega)).trans (h.block i hi hn)⟩
theorem Upd.own {S : Nat → Prop} {w w1 : World} {base : Nat} {e : TypeId} {size n : Nat} {v : Value} {xs : List Value} (hu : Upd S w w1) (h : w.ownsRow base e size v n xs) (hn : ∀ k, v.ownBlock = some k → ¬ S k) : w1.ownsRow base e size v n xs :=
  own_move h fun k hk => hu.block k (own_lt h k hk) (hn k hk)
/-- what a call comes to: what it returns, and which blocks it may change -/
def Does (S : Nat → Prop) (w : World) (V : World → Value → Prop) (e : Ending) (w' : World) : Prop := ∃ v, e = .returned v ∧ V w' v ∧ Upd S w w'
/-- a block known whole: its cells -/
def Blk (w : World) (g : Nat) (t : TypeId) (cs : List Value) : Prop := w.heap[g]? = some (.cells cs.toArray t (0, 0))
theorem Blk.lt {w : World} {g : Nat} {t : TypeId} {cs : List Value} (h : Blk w g t cs) : g < w.heap.size := blk_lt h
theorem Blk.at_ {w : World} {g : Nat} {t : TypeId} {cs : List Value} (h : Blk w g t cs) (i : Nat) : w.cell? ⟨g, i, none⟩ = cs[i]? := by
  rw [blk_cell h]; simp
theorem Blk.fz {w : World} {g : Nat} {t : TypeId} {cs : List Value} (h : Blk w g t cs) (i : Nat) : w.frozen? ⟨g, i, none⟩ = false := blk_frozen h i
theorem Blk.set {w : World} {g : Nat} {t : TypeId} {cs : List Value} (h : Blk w g t cs) (i : Nat) (u : Value) : Blk (w.setCell ⟨g, i, none⟩ u) g t (cs.set i u) := by
  have := blk_set h i u
  unfold Blk
  rw [this]; simp
theorem Blk.far {w : World} {g : Nat} {t : TypeId} {cs : List Value} (h : Blk w g t cs) {p : Addr} (hp : g ≠ p.block) (u : Value) : Blk (w.setCell p u) g t cs := blk_far h hp u
theorem Blk.upd {S : Nat → Prop} {w w' : World} {g : Nat} {t : TypeId} {cs : List Value} (h : Blk w g t cs) (hu : Upd S w w') (hn : ¬ S g) : Blk w' g t cs := hu.blk h hn
theorem Blk.grew {w w' : World} {g : Nat} {t : TypeId} {cs : List Value} (h : Blk w g t cs) (hu : Grew w w') : Blk w' g t cs := blk_below h hu
theorem Blk.new (w : World) (t : TypeId) (cs : List Value) : Blk (w.alloc (.cells cs.toArray t)) w.heap.size t cs := blk_new w _
/-- a block of numbers reads as a row -/
theorem Blk.own {w : World} {base g : Nat} {t : TypeId} {k : IntKind} {xs : List Int} {n : Nat} (h : Blk w g t (nums k xs)) (hb : base ≤ g) (hn : n ≤ xs.length) (hm : xs.length ≤ 9223372036854775807) : w.ownsRow base t 1 (.slice (some ⟨g, 0, none⟩) n xs.length) n (nums k (xs.take n)) := by
  refine ⟨by simp [nums, Nat.min_eq_left hn], .inr ⟨g, xs.length, (nums k xs).toArray, rfl, hb, h, hn, by simpa [maxLen] using hm, by simp [nums], ?_⟩⟩
  simp [nums, List.map_take]
theorem Blk.reads {w : World} {g : Nat} {t : TypeId} {k : IntKind} {xs : List Int} (h : Blk w g t (nums k xs)) (hm : xs.length ≤ 9223372036854775807) : ReadsInt w k (some ⟨g, 0, none⟩) xs.length xs :=
  ⟨rfl, hm, fun _ => ⟨_, rfl, fun i hi => by rw [add_plain, h.at_]; simp [nums, hi, List.getD_eq_getElem?_getD]⟩⟩
theorem Blk.C {w : World} {g : Nat} {t : TypeId} {k : IntKind} {xs : List Int} (h : Blk w g t (nums k xs)) (hm : xs.length ≤ 9223372036854775807) : Kd.C (Kd.int k) w (some ⟨g, 0, none⟩) xs.length xs := C_of (h.reads hm)
/-- what an append leaves: a row of one's own, in the block it had or in a new one -/
def Appended {α : Type} (enc : α → Value) (base : Nat) (e : TypeId) (v : Value) (xs : List α) (W : World) (v1 : Value) (w1 : World) : Prop :=
  w1.ownsRow base e 1 v1 xs.length (encs enc xs) ∧ W.grownBy w1 v.ownBlock ∧ (v1.ownBlock = v.ownBlock ∨ v1.ownBlock = some W.heap.size)
theorem app_row {P : Program} {α : Type} (enc : α → Value) (d : α) (h1 : ∀ x : α, (enc x).oneCell' = true) (W : World) (base : Nat) (t e ty : TypeId) (z : Value) (bytes : Nat)
    (ht : P.underlying t = some (.slice e)) (hinfo : (P.info? e).map (fun i => (i.zero, i.size, i.bytes)) = some (some z, 1, bytes)) (hz : z.cells.size = 1) (hb0 : 0 < bytes)
    (v : Value) (xs ys : List α) (A : Option Addr) (m c : Nat) (HO : W.ownsRow base e 1 v xs.length (encs enc xs)) (HR : ReadsOf enc d W A m ys) (hbase : base ≤ W.heap.size) (hl : (xs.length + m) * bytes ≤ 140737488355328) :
    ∃ v1 w1, (Builtin.append_ #[t, t] ty #[v, .slice A m c]).run P W = .ok v1 w1 ∧ Appended enc base e v (xs ++ ys) W v1 w1 := by
  obtain ⟨i0, hi, hzz⟩ := Option.map_eq_some_iff.1 hinfo
  simp only [Prod.mk.injEq] at hzz
  obtain ⟨hz0, hz1, hz2⟩ := hzz
  have hm : ys.length = m := HR.1
  have hlen : xs.length + m ≤ 140737488355328 := Nat.le_trans (Nat.le_mul_of_pos_right _ hb0) hl
  rcases Nat.eq_zero_or_pos m with h0 | hpos
  · subst h0
    obtain rfl : ys = [] := List.eq_nil_of_length_eq_zero hm
    refine ⟨v, W, ?_, by simpa using HO, World.grownBy.refl W _, .inl rfl⟩
    have hld : ∀ ad : Addr, (loadCells ad 0).run P W = .ok #[] W := fun ad => by simpa using run_loadCells_list (P := P) W ad [] (by simp)
    rcases HO.2 with ⟨rfl, hn⟩ | ⟨g, cap, cur, rfl, _, _, hnc, _⟩
    · cases A <;> simp [Builtin.append_, run_underlying ht, sizeOf, typeInfo, hi, Builtin.lenOf, Builtin.firstCells, hld]
    · cases A <;> simp [Builtin.append_, run_underlying ht, sizeOf, typeInfo, hi, Builtin.lenOf, Builtin.firstCells, hnc, storeCells, hld]
  · obtain ⟨ad, rfl, hc⟩ := HR.2.2 hpos
    have hcells : ∀ j u, (encs enc ys)[j]? = some u → W.cell? (ad.add j) = some u := by
      intro j u hu
      have hj : j < ys.length := by
        rcases Nat.lt_or_ge j ys.length with h | h
        · exact h
        · simp [encs, List.getElem?_eq_none h] at hu
      rw [encs_get (d := d) ys j hj] at hu
      rw [← hu]
      exact hc j (by omega)
    obtain ⟨v1, w1, hr, h2, h3, _, h5⟩ := run_append_own_at (P := P) W base t ty e i0 z 1 bytes ht hi hz0 hz1 hz2 hz (by omega) v xs.length (encs enc xs) HO ad m c (encs enc ys) (by simp [encs, hm]) hcells
      (by intro u hu; simp only [encs, List.mem_map] at hu; obtain ⟨q, _, rfl⟩ := hu; exact h1 q) (by simp only [maxLen]; omega) hl hbase
    exact ⟨v1, w1, hr, by simpa [encs, hm] using h2, h3, h5⟩
theorem app_num {P : Program} {k : IntKind} (W : World) (base : Nat) (t e ty : TypeId) (bytes : Nat)
    (ht : P.underlying t = some (.slice e)) (hinfo : (P.info? e).map (fun i => (i.zero, i.size, i.bytes)) = some (some (.int k 0), 1, bytes)) (hb0 : 0 < bytes)
    (v : Value) (xs ys : List Int) (A : Option Addr) (m c : Nat) (HO : W.ownsRow base e 1 v xs.length (nums k xs)) (HR : ReadsInt W k A m ys) (hbase : base ≤ W.heap.size) (hl : (xs.length + m) * bytes ≤ 140737488355328) :
    ∃ v1 w1, (Builtin.append_ #[t, t] ty #[v, .slice A m c]).run P W = .ok v1 w1 ∧ Appended (Value.int k) base e v (xs ++ ys) W v1 w1 :=
  app_row (Value.int k) 0 (fun _ => rfl) W base t e ty (.int k 0) bytes ht hinfo rfl hb0 v xs ys A m c HO HR hbase hl
theorem Appended.upd {α : Type} {enc : α → Value} {base : Nat} {e : TypeId} {v v1 : Value} {xs : List α} {W w1 : World} (h : Appended enc base e v xs W v1 w1) : Upd (fun k => v.ownBlock = some k) W w1 :=
  (Upd.refl _ W).grown h.2.1 fun k hk => .inl hk
/-- a row of one's own, cut short -/
theorem own_take {w : World} {base n m cap size : Nat} {e : TypeId} {A : Option Addr} {xs : List Value} (h : w.ownsRow base e size (.slice A n cap) n xs) (hm : m ≤ n) : w.ownsRow base e size (.slice A m cap) m (xs.take (m * size)) := by
  obtain ⟨hl, h⟩ := h
  refine ⟨by rw [List.length_take, hl]; exact Nat.min_eq_left (Nat.mul_le_mul_right _ hm), ?_⟩
  rcases h with ⟨hv, hn⟩ | ⟨g, cap', cur, hv, hb, hh, hnc, hcm, hcs, htake⟩
  · injection hv with h1 h2 h3
    subst h1 h3
    obtain rfl : m = 0 := by omega
    exact .inl ⟨rfl, rfl⟩
  · injection hv with h1 h2 h3
    subst h1 h3
    refine .inr ⟨g, cap, cur, rfl, hb, hh, by omega, hcm, hcs, ?_⟩
    rw [← htake, List.take_take, Nat.min_eq_left (Nat.mul_le_mul_right _ hm)]
/-- a slice of one element in a block of its own, which is not the row that is written -/
def One (e : TypeId) (x : Value) (vb : Value) : World → Value → Prop := fun w v => ∃ g1, v = .slice (some ⟨g1, 0, none⟩) 1 1 ∧ Blk w g1 e [x] ∧ some g1 ≠ vb.ownBlock
/-- the row behind an append -/
def AppV (base : Nat) (e : TypeId) (cs : List Value) (n : Nat) (vb : Value) (N : Nat) : World → Value → Prop := fun w v => w.ownsRow base e 1 v n cs ∧ (v.ownBlock = vb.ownBlock ∨ ∃ k, v.ownBlock = some k ∧ N ≤ k)
theorem eval_tmp {a : Act} {t : Tmp} {v : Value} (h : a.tmps[t]?.getD undef = v) : a.eval (.tmp t) = v := by simpa [Act.eval] using h
/-- append as one operation, by the equation of its run -/
theorem wp_app {P : Program} {o : Oper} {a : Act} {w : World} {K : Act → World → Prop} {Q : Exit → Act → World → Prop} (s x : Operand) (t : TypeId)
    (ho : o.op = .call { callee := .builtin .append, args := #[s, x], argTypes := #[t, t] }) {v y : Value} (hs : a.eval s = v) (hx : a.eval x = y) {v1 : Value} {w1 : World}
    (hr : (Builtin.append_ #[t, t] o.type #[v, y]).run P w = .ok v1 w1) (h : K (a.put o.dst v1) w1) : Oper.wp P o a w K Q := by
  unfold Oper.wp execOp
  simp only [ho, resolve, invoke, builtin, Sem.run_bind, Sem.run_pure, Result.andThen_ok, List.map_toArray, List.map_cons, List.map_nil, hs, hx, hr]
  exact h
theorem wpList_app {P : Program} {ops : Array Oper} {rest : List Oper} {o : Oper} {a : Act} {w : World} {Q : Exit → Act → World → Prop} (hgd : o.guard = none) (s x : Operand) (t : TypeId)
    (ho : o.op = .call { callee := .builtin .append, args := #[s, x], argTypes := #[t, t] }) {v y : Value} (hs : a.eval s = v) (hx : a.eval x = y) {v1 : Value} {w1 : World}
    (hr : (Builtin.append_ #[t, t] o.type #[v, y]).run P w = .ok v1 w1) (h : wpList P ops Q rest (a.put o.dst v1) w1) : wpList P ops Q (o :: rest) a w :=
  wpList_plain hgd fun K hK => wp_app s x t ho hs hx hr (hK _ _ h)
theorem Upd.of_grown {w w' : World} {row : Option Nat} (h : w.grownBy w' row) : Upd (fun k => row = some k) w w' := (Upd.refl _ w).grown h fun k hk => .inl hk
theorem add_block (a : Addr) (j : Nat) : (a.add j).block = a.block := by unfold Addr.add; split <;> rfl
/-- a row that is read stays, if what changes lies elsewhere -/
theorem C_upd {S : Nat → Prop} {w w' : World} {k : IntKind} {A : Option Addr} {n : Nat} {xs : List Int} (h : Kd.C (Kd.int k) w A n xs) (hu : Upd S w w') (hA : ∀ ad, A = some ad → ¬ S ad.block) : Kd.C (Kd.int k) w' A n xs := by
  obtain ⟨h1, h2, h3⟩ := reads_of h
  refine C_of ⟨h1, h2, fun hp => ?_⟩
  obtain ⟨ad, rfl, hc⟩ := h3 hp
  exact ⟨ad, rfl, fun j hj => hu.cell (hc j hj) (by rw [add_block]; exact hA ad rfl)⟩
end Go.Proofs.Ytmifoihfpjomaaa.F

-- F66
namespace Go.Proofs.Ytmifoihfpjomaaa.F
open Go.RowKit Go.Proofs.YtmifoihfpjomaaaW.PrintWords Go.Proofs.YtmifoihfpjomaaaW.PrintLast Go.Proofs.YtmifoihfpjomaaaW.PrintMore
attribute [local go_sem] max2_int min2_int max_two min_two max_three min_three max_four min_four   -- for this text's walks alone
set_option linter.unusedVariables false
set_option linter.unusedSimpArgs false

end Go.Proofs.Ytmifoihfpjomaaa.F

-- F58
namespace Go.Proofs.Ytmifoihfpjomaaa.F
open Go.RowKit Go.Proofs.YtmifoihfpjomaaaW.PrintWords Go.Proofs.YtmifoihfpjomaaaW.PrintLast Go.Proofs.YtmifoihfpjomaaaW.PrintMore
attribute [local go_sem] max2_int min2_int max_two min_two max_three min_three max_four min_four   -- for this text's walks alone
set_option linter.unusedVariables false
set_option linter.unusedSimpArgs false

/-! ### num_lay: function 58 -/
def num_lay.l0 : Nat → List Int → Int → Option (List Int)
  | 0, _, _ => none
  | k + 1, x0, x1 => if x1 ≥ 128 then (if x0.length < 140737488355328 then (num_lay.l0 k (x0 ++ [Go.bits .or .u8 ((x1) % 256) 128]) (x1 / 128)) else (none)) else (if x0.length < 140737488355328 then (some (x0 ++ [(x1) % 256])) else (none))
def num_lay.f (k : Nat) (l0 : List Int) (a1 : Int) : Option (List Int) := num_lay.l0 k l0 a1
set_option maxHeartbeats 8000000 in
set_option maxRecDepth 100000 in
theorem num_lay.calls (k : Nat) (P0_ : Nat → Prop) (u9000_ : Value) (l0 : List Int) (a1 : Int) (r : List Int) (w0 w : World) (hB : Below w0.heap.size w0 w) (ho0 : Kd.R (Kd.int .u8) 5 w w0.heap.size P0_ u9000_ l0) (h : num_lay.f k l0 a1 = some r) :
    Calls Try.prog 58 #[u9000_, .int .u64 a1] w fun e w' => ∃ v0_ : Value, e = .returned (v0_) ∧ Kd.R (Kd.int .u8) 5 w' w0.heap.size (fun k_ => (P0_ k_ ∨ w.heap.size ≤ k_)) v0_ r ∧ Below w0.heap.size w0 w' ∧ Kept w w' (fun k_ => P0_ k_) := by
  have HO0 := Aside0.mk (show Kd.R (Kd.int .u8) 5 w w0.heap.size (fun k_ => (P0_ k_ ∨ w.heap.size ≤ k_)) u9000_ l0 from Kd.R_mono ho0 (fun k_ hk => (.inl hk)))
  have HK := Aside0.mk (Kept.refl w (fun k_ => P0_ k_))
  have HW0 := Aside0.mk hB.size
  have HB := Aside0.mk hB
  clear hB
  have H : (num_lay.l0 k l0 a1) = some r := h
  clear h
  have H' := Aside0.mk H
  clear H
  go_enter Try.func58, Try.ntmps58
  go_wp2
  go_loopg [0, 1] k (fun kq v0 v1 w' => ∃ (x0_1 : List Int) (x1_1 : Int), v1 = .int .u64 x1_1 ∧ Aside0 (num_lay.l0 kq x0_1 x1_1 = some r) ∧ Aside0 (kq ≤ k) ∧ Aside0 (Kd.R (Kd.int .u8) 5 w' w0.heap.size (fun k_ => (P0_ k_ ∨ w.heap.size ≤ k_)) v0 x0_1) ∧ Aside0 (Kept w w' (fun k_ => P0_ k_)) ∧ Aside0 (Below w0.heap.size w0 w'))
  case atStart => exact ⟨(l0), (a1), (by first | rfl | (simp; done) | (simp [*]; done)), H', ⟨Nat.le_refl _⟩, ⟨by (with_reducible repeat (first | apply Kd.R_alloc | apply Kd.R_drewN | apply Kd.R_drew)); exact HO0.out⟩, ⟨by repeat (first | (with_reducible first | exact HK.out | apply Kept.alloc | apply Kept.drewN | apply Kept.drew) | exact HK.out)⟩, ⟨by repeat (first | (with_reducible first | exact HB.out | apply below_alloc | apply pw_below_drewN | apply below_drew1) | exact HB.out)⟩⟩
  case round =>
    clear H'
    try clear p2
    obtain ⟨x0_1, x1_1, rfl, HA, HK1, HO_0, HK, HB⟩ := hrel
    cases gk with
    | zero => exact absurd HA.out (by simp [num_lay.l0])
    | succ k1 =>
      have H := HA.out
      clear HA
      simp only [num_lay.l0] at H
      by_cases c3 : x1_1 ≥ 128
      · rw [if_pos c3] at H
        have c3b0 : decide (128 ≤ x1_1) = true := decide_eq_true c3
        clear c3
        by_cases c4 : x0_1.length < 140737488355328
        · rw [if_pos c4] at H
          have LMc4 := Aside0.mk c4
          clear c4
          obtain ⟨y130, hy130⟩ : ∃ y_ : List Int, y_ = (x0_1 ++ [Go.bits .or .u8 ((x1_1) % 256) 128]) := ⟨_, rfl⟩
          replace H : (num_lay.l0 k1 y130 (x1_1 / 128)) = some r := by first | (rw [hy130]; with_reducible exact H) | (have H2_ := (Option.bind_some _ _).symm.trans H; rw [hy130]; with_reducible exact H2_) | (have H2_ := (Option.bind_some _ _).symm.trans H; with_reducible exact H2_) | with_reducible exact H | (rw [hy130]; exact H) | exact H
          have Ny130 := Aside0.mk hy130
          clear hy130
          have H' := Aside0.mk H
          clear H
          go_wp2_with (first | ((with_reducible refine gate_builtin (b := .append) (xs := #[.tmp 7, .tmp 11]) rfl ?_); at_builtin; refine Kd.R_append (Kd.int .u8) (w0 := w0) w0.heap.size rfl (.tmp 7) (.tmp 11) 45 5 (.int .u8 0) 1 rfl Try.underlying45 info5 rfl (by decide) (by omega) u0 x0_1 (Go.bits .or .u8 ((x1_1) % 256) 128) [.int .u8 (Go.bits .or .u8 ((x1_1) % 256) 128)] (fun k_ => (P0_ k_ ∨ w.heap.size ≤ k_)) (fun _ => False) rfl rfl ?aP (fun _ hk => hk.elim) ?aF ?aO ?aB ?aS ?aL ?_; (case aP => exact rfl); (case aB => exact (by repeat (first | (with_reducible first | exact HB.out | apply below_alloc | apply pw_below_drewN | apply below_drew1) | exact HB.out))); (case aF => exact (fun k_ hk => (.inr (Nat.le_trans (by first | exact HK.out.1 | exact (show Kept w _ (fun k_ => P0_ k_) from by repeat (first | (with_reducible first | exact HK.out | apply Kept.alloc | apply Kept.drewN | apply Kept.drew) | exact HK.out)).1) hk)))); (case aO => exact (by (with_reducible repeat (first | apply Kd.R_alloc | apply Kd.R_drewN | apply Kd.R_drew)); exact HO_0.out)); (case aS => exact (below_size (by repeat (first | (with_reducible first | exact HB.out | apply below_alloc | apply pw_below_drewN | apply below_drew1) | exact HB.out)))); (case aL => have := LMc4.out; omega); intro v131 w5 ho hb hg hat; rw [← Ny130.out] at ho; have n0_ := Aside0.mk (hb); have n1_ := Aside0.mk (Kept.of_grown (S := (fun k_ => P0_ k_)) hg (by repeat (first | (with_reducible first | exact HK.out | apply Kept.alloc | apply Kept.drewN | apply Kept.drew) | exact HK.out)) (fun k_ e_ => (HO_0.out.1 k_ e_))); have n2_ := Aside0.mk (ho); clear HB; clear HK; clear HO_0; have HB := n0_; have HK := n1_; have HO132 := n2_; clear n0_ n1_ n2_; clear ho hb hg hat))
          go_roundg k1
          case measure => have := HK1.out; omega
          case rel => exact ⟨(y130), (x1_1 / 128), (by first | rfl | (simp; done) | (simp [*]; done)), H', ⟨by have := HK1.out; omega⟩, ⟨by (with_reducible repeat (first | apply Kd.R_alloc | apply Kd.R_drewN | apply Kd.R_drew)); exact HO132.out⟩, ⟨by repeat (first | (with_reducible first | exact HK.out | apply Kept.alloc | apply Kept.drewN | apply Kept.drew) | exact HK.out)⟩, ⟨by repeat (first | (with_reducible first | exact HB.out | apply below_alloc | apply pw_below_drewN | apply below_drew1) | exact HB.out)⟩⟩
        · rw [if_neg c4] at H
          exact absurd H (by simp)
      · rw [if_neg c3] at H
        have c3b0 : decide (128 ≤ x1_1) = false := decide_eq_false c3
        clear c3
        by_cases c6 : x0_1.length < 140737488355328
        · rw [if_pos c6] at H
          have LMc6 := Aside0.mk c6
          clear c6
          obtain ⟨y133, hy133⟩ : ∃ y_ : List Int, y_ = (x0_1 ++ [(x1_1) % 256]) := ⟨_, rfl⟩
          replace H : (some y133) = some r := by first | (rw [hy133]; with_reducible exact H) | (have H2_ := (Option.bind_some _ _).symm.trans H; rw [hy133]; with_reducible exact H2_) | (have H2_ := (Option.bind_some _ _).symm.trans H; with_reducible exact H2_) | with_reducible exact H | (rw [hy133]; exact H) | exact H
          have Ny133 := Aside0.mk hy133
          clear hy133
          obtain rfl := Option.some.inj H
          go_wp2_with (first | ((with_reducible refine gate_builtin (b := .append) (xs := #[.tmp 15, .tmp 18]) rfl ?_); at_builtin; refine Kd.R_append (Kd.int .u8) (w0 := w0) w0.heap.size rfl (.tmp 15) (.tmp 18) 45 5 (.int .u8 0) 1 rfl Try.underlying45 info5 rfl (by decide) (by omega) u0 x0_1 ((x1_1) % 256) [.int .u8 ((x1_1) % 256)] (fun k_ => (P0_ k_ ∨ w.heap.size ≤ k_)) (fun _ => False) rfl rfl ?aP (fun _ hk => hk.elim) ?aF ?aO ?aB ?aS ?aL ?_; (case aP => exact rfl); (case aB => exact (by repeat (first | (with_reducible first | exact HB.out | apply below_alloc | apply pw_below_drewN | apply below_drew1) | exact HB.out))); (case aF => exact (fun k_ hk => (.inr (Nat.le_trans (by first | exact HK.out.1 | exact (show Kept w _ (fun k_ => P0_ k_) from by repeat (first | (with_reducible first | exact HK.out | apply Kept.alloc | apply Kept.drewN | apply Kept.drew) | exact HK.out)).1) hk)))); (case aO => exact (by (with_reducible repeat (first | apply Kd.R_alloc | apply Kd.R_drewN | apply Kd.R_drew)); exact HO_0.out)); (case aS => exact (below_size (by repeat (first | (with_reducible first | exact HB.out | apply below_alloc | apply pw_below_drewN | apply below_drew1) | exact HB.out)))); (case aL => have := LMc6.out; omega); intro v134 w7 ho hb hg hat; rw [← Ny133.out] at ho; have n0_ := Aside0.mk (hb); have n1_ := Aside0.mk (Kept.of_grown (S := (fun k_ => P0_ k_)) hg (by repeat (first | (with_reducible first | exact HK.out | apply Kept.alloc | apply Kept.drewN | apply Kept.drew) | exact HK.out)) (fun k_ e_ => (HO_0.out.1 k_ e_))); have n2_ := Aside0.mk (ho); clear HB; clear HK; clear HO_0; have HB := n0_; have HK := n1_; have HO135 := n2_; clear n0_ n1_ n2_; clear ho hb hg hat))
          go_ret
          exact ⟨_, by first | rfl | (simp [errW_none, errW_some] <;> rfl) | (simp [*, errW_none, errW_some] <;> rfl), by (with_reducible repeat (first | apply Kd.R_alloc | apply Kd.R_drewN | apply Kd.R_drew)); exact HO135.out, by repeat (first | (with_reducible first | exact HB.out | apply below_alloc | apply pw_below_drewN | apply below_drew1) | exact HB.out), by repeat (first | (with_reducible first | exact HK.out | apply Kept.alloc | apply Kept.drewN | apply Kept.drew) | exact HK.out)⟩
        · rw [if_neg c6] at H
          exact absurd H (by simp)

end Go.Proofs.Ytmifoihfpjomaaa.F

-- F59
namespace Go.Proofs.Ytmifoihfpjomaaa.F
open Go.RowKit Go.Proofs.YtmifoihfpjomaaaW.PrintWords Go.Proofs.YtmifoihfpjomaaaW.PrintLast Go.Proofs.YtmifoihfpjomaaaW.PrintMore
attribute [local go_sem] max2_int min2_int max_two min_two max_three min_three max_four min_four   -- for this text's walks alone
set_option linter.unusedVariables false
set_option linter.unusedSimpArgs false

/-! ### num_own: function 59 -/
def num_own.f (l0 : List Int) : Option (List Int) := (some (([] : List Int) : List Int)).bind fun y136 => (if y136.length + l0.length < 140737488355328 then (some (y136 ++ l0)) else (none))
set_option maxHeartbeats 8000000 in
set_option maxRecDepth 100000 in
theorem num_own.calls (A0 : Option Addr) (c0 : Nat) (l0 : List Int) (r : List Int) (w : World) (hr0 : Kd.C (Kd.int .u8) w A0 l0.length l0) (hc0 : l0.length ≤ c0) (h : num_own.f l0 = some r) :
    Calls Try.prog 59 #[.slice A0 l0.length c0] w fun e w' => ∃ v0_ : Value, e = .returned (v0_) ∧ Kd.R (Kd.int .u8) 5 w' w.heap.size (fun _ => True) v0_ r ∧ Below w.heap.size w w' := by
  have HR0 := Aside0.mk hr0
  have HC0 := Aside0.mk hc0
  clear hr0 hc0
  have HB := Aside0.mk (Below.refl w.heap.size w)
  have H : ((some (([] : List Int) : List Int)).bind fun y136 => (if y136.length + l0.length < 140737488355328 then (some (y136 ++ l0)) else (none))) = some r := h
  clear h
  obtain ⟨y136, hy136⟩ : ∃ y_ : List Int, y_ = (([] : List Int)) := ⟨_, rfl⟩
  replace H : (if y136.length + l0.length < 140737488355328 then (some (y136 ++ l0)) else (none)) = some r := by first | (rw [hy136]; with_reducible exact H) | (have H2_ := (Option.bind_some _ _).symm.trans H; rw [hy136]; with_reducible exact H2_) | (have H2_ := (Option.bind_some _ _).symm.trans H; with_reducible exact H2_) | with_reducible exact H | (rw [hy136]; exact H) | exact H
  have Ny136 := Aside0.mk hy136
  clear hy136
  by_cases c2 : y136.length + l0.length < 140737488355328
  · rw [if_pos c2] at H
    have LMc2 := Aside0.mk c2
    clear c2
    obtain ⟨y139, hy139⟩ : ∃ y_ : List Int, y_ = (y136 ++ l0) := ⟨_, rfl⟩
    replace H : (some y139) = some r := by first | (rw [hy139]; with_reducible exact H) | (have H2_ := (Option.bind_some _ _).symm.trans H; rw [hy139]; with_reducible exact H2_) | (have H2_ := (Option.bind_some _ _).symm.trans H; with_reducible exact H2_) | with_reducible exact H | (rw [hy139]; exact H) | exact H
    have Ny139 := Aside0.mk hy139
    clear hy139
    obtain rfl := Option.some.inj H
    go_enter Try.func59, Try.ntmps59
    go_wp2_with (first | ((with_reducible refine gate_dst (N := 3) rfl ?_); refine Kd.R_lit (Kd.int .u8) _ 5 ?hg (N := 3) ?hd (xs := ([] : List Int)) (inner := []) (ok := fun _ => True) (okp := fun _ => True) ?hr ?hp (fun _ hk => hk) trivial (Below.refl _ _) (Nat.le_refl _) (by simp) ?_; (case hd => rfl); (case hg => rfl); (case hr => first | (go_simp; done) | (go_simp; rfl)); (case hp => exact (Reps.none _ _)); intro v137 w3 ho4 hb hg_ hnew_; clear hg_ hnew_; (first | rw [← Ny136.out] at ho4 | (simp only [Int.reduceToNat] at ho4; rw [← Ny136.out] at ho4)); have n0_ := Aside0.mk (Kd.R_lower ho4 (below_size (by repeat (first | (with_reducible first | exact HB.out | apply below_alloc | apply pw_below_drewN | apply below_drew1) | exact HB.out)))); have n1_ := Aside0.mk (below_step (by repeat (first | (with_reducible first | exact HB.out | apply below_alloc | apply pw_below_drewN | apply below_drew1) | exact HB.out)) hb); clear HB; have HO138 := n0_; have HB := n1_; clear n0_ n1_; clear hb ho4) | ((with_reducible refine gate_builtin (b := .append) (xs := #[.tmp 3, .tmp 4]) rfl ?_); at_builtin; refine Kd.R_append_rows (Kd.int .u8) (w0 := w) w.heap.size rfl (.tmp 3) (.tmp 4) 45 5 (.int .u8 0) 1 rfl Try.underlying45 info5 rfl (by decide) (by omega) v137 y136 l0 _ _ _ (fun _ => True) (fun _ => False) rfl rfl ?aO ?aR (fun _ _ h => h) (fun _ h => h.elim) ?aF ?aB ?aS ?aL ?_; (case aR => repeat (first | exact (Kd.C_below HR0.out HB.out) | (with_reducible refine Kd.C_alloc ?_ _) | (with_reducible refine Kd.C_drewN ?_ _) | (with_reducible refine Kd.C_drew ?_))); (case aB => exact (by repeat (first | (with_reducible first | exact HB.out | apply below_alloc | apply pw_below_drewN | apply below_drew1) | exact HB.out))); (case aF => exact (fun _ _ => trivial)); (case aO => exact (by (with_reducible repeat (first | apply Kd.R_alloc | apply Kd.R_drewN | apply Kd.R_drew)); exact HO138.out)); (case aS => exact (below_size (by repeat (first | (with_reducible first | exact HB.out | apply below_alloc | apply pw_below_drewN | apply below_drew1) | exact HB.out)))); (case aL => have := LMc2.out; omega); intro v140 w5 ho hb hg hat; rw [← Ny139.out] at ho; have n0_ := Aside0.mk (hb); have n1_ := Aside0.mk (ho); clear HB; clear HO138; have HB := n0_; have HO141 := n1_; clear n0_ n1_; clear ho hb hg hat))
    go_ret
    exact ⟨_, by first | rfl | (simp [errW_none, errW_some] <;> rfl) | (simp [*, errW_none, errW_some] <;> rfl), by (with_reducible repeat (first | apply Kd.R_alloc | apply Kd.R_drewN | apply Kd.R_drew)); exact HO141.out, by repeat (first | (with_reducible first | exact HB.out | apply below_alloc | apply pw_below_drewN | apply below_drew1) | exact HB.out)⟩
  · rw [if_neg c2] at H
    exact absurd H (by simp)

end Go.Proofs.Ytmifoihfpjomaaa.F

-- F46
namespace Go.Proofs.Ytmifoihfpjomaaa.F
open Go.RowKit Go.Proofs.YtmifoihfpjomaaaW.PrintWords Go.Proofs.YtmifoihfpjomaaaW.PrintLast Go.Proofs.YtmifoihfpjomaaaW.PrintMore
attribute [local go_sem] max2_int min2_int max_two min_two max_three min_three max_four min_four   -- for this text's walks alone
set_option linter.unusedVariables false
set_option linter.unusedSimpArgs false

/-! ### num_Put: function 46 -/
def num_Put.f (k : Nat) (l0 : List Int) (a1 : Int) : Option (List Int) := (num_own.f l0).bind fun t142 => ((num_lay.f k t142 a1).bind fun t145 => (some t145))
set_option maxHeartbeats 8000000 in
set_option maxRecDepth 100000 in
theorem num_Put.calls (k : Nat) (A0 : Option Addr) (c0 : Nat) (l0 : List Int) (a1 : Int) (r : List Int) (w : World) (hr0 : Kd.C (Kd.int .u8) w A0 l0.length l0) (hc0 : l0.length ≤ c0) (h : num_Put.f k l0 a1 = some r) :
    Calls Try.prog 46 #[.slice A0 l0.length c0, .int .u64 a1] w fun e w' => ∃ v0_ : Value, e = .returned (v0_) ∧ Kd.R (Kd.int .u8) 5 w' w.heap.size (fun _ => True) v0_ r ∧ Below w.heap.size w w' := by
  have HR0 := Aside0.mk hr0
  have HC0 := Aside0.mk hc0
  clear hr0 hc0
  have HB := Aside0.mk (Below.refl w.heap.size w)
  have H : ((num_own.f l0).bind fun t142 => ((num_lay.f k t142 a1).bind fun t145 => (some t145))) = some r := h
  clear h
  replace H := Option.bind_eq_some_iff.mp H
  obtain ⟨t142, A30, H⟩ := H
  replace H : ((num_lay.f k t142 a1).bind fun t145 => (some t145)) = some r := H
  have A3 := Aside0.mk A30
  clear A30
  replace H := Option.bind_eq_some_iff.mp H
  obtain ⟨t145, A40, H⟩ := H
  replace H : (some t145) = some r := H
  have A4 := Aside0.mk A40
  clear A40
  obtain rfl := Option.some.inj H
  go_enter Try.func46, Try.ntmps46
  go_wp2_with (first | ((with_reducible refine gate_callee (f := 59) rfl ?_); refine goesL_ (some 6) rfl rfl Try.func59 (by kernel_rfl) rfl #[.slice A0 l0.length c0] rfl (by (try simp only [List.map_toArray, List.map_cons, List.map_nil]); first | done | rfl | (simp only [List.length_drop, List.length_take]; rfl)) ?_; (with_reducible refine (num_own.calls _ _ l0 t142 _ ?side1 ?side2 A3.out).mono ?_); (case side1 => repeat (first | exact HR0.out | (with_reducible refine Kd.C_alloc ?_ _) | (with_reducible refine Kd.C_drewN ?_ _) | (with_reducible refine Kd.C_drew ?_))); (case side2 => exact HC0.out); rintro e w5 ⟨v143, rfl, ho0, hb⟩; refine ⟨_, rfl, ?_⟩; have n0_ := Aside0.mk (Kd.R_lower ho0 (below_size (by repeat (first | (with_reducible first | exact HB.out | apply below_alloc | apply pw_below_drewN | apply below_drew1) | exact HB.out)))); have n1_ := Aside0.mk (below_step (by repeat (first | (with_reducible first | exact HB.out | apply below_alloc | apply pw_below_drewN | apply below_drew1) | exact HB.out)) hb); clear HB; have HO144 := n0_; have HB := n1_; clear n0_ n1_; (try clear hb); (try clear hb2); (try clear hk); (try clear hi); (try clear ho0); obtain ⟨Ao6, co6, eo6⟩ := Kd.R_slice HO144.out; subst eo6) | ((with_reducible refine gate_callee (f := 58) rfl ?_); refine goesL_ (some 8) rfl rfl Try.func58 (by kernel_rfl) rfl #[.slice Ao6 t142.length co6, .int .u64 a1] rfl (by (try simp only [List.map_toArray, List.map_cons, List.map_nil]); first | done | rfl | (simp only [List.length_drop, List.length_take]; rfl)) ?_; (with_reducible refine (num_lay.calls k (fun k_ => some k_ = (.slice Ao6 t142.length co6 : Value).ownBlock) (.slice Ao6 t142.length co6) t142 a1 t145 w _ ?side1 ?side2 A4.out).mono ?_); (case side1 => repeat (first | (with_reducible first | exact HB.out | apply below_alloc | apply pw_below_drewN | apply below_drew1) | exact HB.out)); (case side2 => exact Kd.R_tight rfl HO144.out); rintro e w7 ⟨v146, rfl, ho0, hb, hkp⟩; refine ⟨_, rfl, ?_⟩; have n0_ := Aside0.mk (Kd.R_mono (ok' := fun k_ => True) ho0 (fun k_ hk_ => trivial)); have n1_ := Aside0.mk (hb); clear HB; clear HO144; have HO147 := n0_; have HB := n1_; clear n0_ n1_; (try clear hb); (try clear hkp); (try clear ho0)))
  go_ret
  exact ⟨_, by first | rfl | (simp [errW_none, errW_some] <;> rfl) | (simp [*, errW_none, errW_some] <;> rfl), by (with_reducible repeat (first | apply Kd.R_alloc | apply Kd.R_drewN | apply Kd.R_drew)); exact HO147.out, by repeat (first | (with_reducible first | exact HB.out | apply below_alloc | apply pw_below_drewN | apply below_drew1) | exact HB.out)⟩

end Go.Proofs.Ytmifoihfpjomaaa.F

-- F56
namespace Go.Proofs.Ytmifoihfpjomaaa.F
open Go.RowKit Go.Proofs.YtmifoihfpjomaaaW.PrintWords Go.Proofs.YtmifoihfpjomaaaW.PrintLast Go.Proofs.YtmifoihfpjomaaaW.PrintMore
attribute [local go_sem] max2_int min2_int max_two min_two max_three min_three max_four min_four   -- for this text's walks alone
set_option linter.unusedVariables false
set_option linter.unusedSimpArgs false

/-! ### num_Get: function 56 -/
mutual
def num_Get.j0 : Nat → List Int → Int → Bool → Option (Int × Int × Int)
  | 0, _, _, _ => none
  | k + 1, x0, x1, x17 => if x17 = true then (some (0, 0, 9)) else (num_Get.l0 k x0 x1 0 0)
def num_Get.l0 : Nat → List Int → Int → Int → Int → Option (Int × Int × Int)
  | 0, _, _, _, _ => none
  | k + 1, x0, x1, x7, x18 => if x18 < 10 then (if (wrap64 (x1 + x18)) = (x0.length : Int) then (some (0, 0, 3)) else (if 0 ≤ (wrap64 (x1 + x18)) then (if (wrap64 (x1 + x18)) < (x0.length : Int) then (if (rd x0 (wrap64 (x1 + x18))) < 128 then (if (rd x0 (wrap64 (x1 + x18))) = 0 then (if x18 > 0 then (some (0, 0, 4)) else (if x18 = 9 then (if (rd x0 (wrap64 (x1 + x18))) > 1 then (some (0, 0, 4)) else (if 0 ≤ (wrap64 (7 * x18)) then (some (Go.bits .or .u64 x7 (shl .u64 (IntKind.u64.wrap (rd x0 (wrap64 (x1 + x18)))) (wrap64 (7 * x18))), wrap64 ((wrap64 (x1 + x18)) + 1), 0)) else (none))) else (if 0 ≤ (wrap64 (7 * x18)) then (some (Go.bits .or .u64 x7 (shl .u64 (IntKind.u64.wrap (rd x0 (wrap64 (x1 + x18)))) (wrap64 (7 * x18))), wrap64 ((wrap64 (x1 + x18)) + 1), 0)) else (none)))) else (if x18 = 9 then (if (rd x0 (wrap64 (x1 + x18))) > 1 then (some (0, 0, 4)) else (if 0 ≤ (wrap64 (7 * x18)) then (some (Go.bits .or .u64 x7 (shl .u64 (IntKind.u64.wrap (rd x0 (wrap64 (x1 + x18)))) (wrap64 (7 * x18))), wrap64 ((wrap64 (x1 + x18)) + 1), 0)) else (none))) else (if 0 ≤ (wrap64 (7 * x18)) then (some (Go.bits .or .u64 x7 (shl .u64 (IntKind.u64.wrap (rd x0 (wrap64 (x1 + x18)))) (wrap64 (7 * x18))), wrap64 ((wrap64 (x1 + x18)) + 1), 0)) else (none)))) else (if 0 ≤ (wrap64 (7 * x18)) then (num_Get.l0 k x0 x1 (Go.bits .or .u64 x7 (shl .u64 (IntKind.u64.wrap (Go.bits .and .u8 (rd x0 (wrap64 (x1 + x18))) 127)) (wrap64 (7 * x18)))) (wrap64 (x18 + 1))) else (none))) else (none)) else (none))) else (some (0, 0, 4))
end
def num_Get.f (k : Nat) (l0 : List Int) (a1 : Int) : Option (Int × Int × Int) := if a1 < 0 then (num_Get.j0 k l0 a1 true) else (num_Get.j0 k l0 a1 (decide (a1 > (l0.length : Int))))
set_option maxHeartbeats 8000000 in
set_option maxRecDepth 100000 in
theorem num_Get.calls (k : Nat) (A0 : Option Addr) (c0 : Nat) (l0 : List Int) (a1 : Int) (r1 : Int) (r2 : Int) (r3 : Int) (w : World) (hr0 : Kd.C (Kd.int .u8) w A0 l0.length l0) (hc0 : l0.length ≤ c0) (h : num_Get.f k l0 a1 = some (r1, r2, r3)) :
    Calls Try.prog 56 #[.slice A0 l0.length c0, .int .i64 a1] w fun e w' => e = .returned (.tuple #[.int .u64 r1, .int .i64 r2, .int .i64 r3]) ∧ Drawn0 w w' := by
  have HR0 := Aside0.mk hr0
  have HC0 := Aside0.mk hc0
  clear hr0 hc0
  have H : (if a1 < 0 then (num_Get.j0 k l0 a1 true) else (num_Get.j0 k l0 a1 (decide (a1 > (l0.length : Int))))) = some (r1, r2, r3) := h
  clear h
  have HC3 := Aside0.mk H
  clear H
  go_enter Try.func56, Try.ntmps56
  go_upto_region 1 with (fail)
  go_cut [17] (fun v17 wc => ∃ (kq : Nat) (x17_2 : Bool), v17 = .bool x17_2 ∧ Aside0 (num_Get.j0 kq l0 a1 x17_2 = some (r1, r2, r3)) ∧ Aside0 (kq ≤ k) ∧ Drawn0 w wc)
  case first =>
    have H := HC3.out
    clear HC3
    by_cases c4 : a1 < 0
    · rw [if_pos c4] at H
      have c4b0 : decide (a1 < 0) = true := decide_eq_true c4
      clear c4
      (first | rw [c4b0] | (simp only [i64_w, i32_w]; rw [c4b0]) | skip)
      have H' := Aside0.mk H
      clear H
      go_wp2
      go_meet
      case rel => exact ⟨_, (true), (by first | rfl | (simp; done) | (simp [*]; done)), H', ⟨by first | omega | exact Nat.le_refl _⟩, by repeat (first | exact Drawn0.refl _ | apply Drawn0.step)⟩
    · rw [if_neg c4] at H
      have c4b0 : decide (a1 < 0) = false := decide_eq_false c4
      clear c4
      (first | rw [c4b0] | (simp only [i64_w, i32_w]; rw [c4b0]) | skip)
      have H' := Aside0.mk H
      clear H
      go_wp2
      go_meet
      case rel => exact ⟨_, (decide (a1 > (l0.length : Int))), (by first | rfl | (simp; done) | (simp [*]; done)), H', ⟨by first | omega | exact Nat.le_refl _⟩, by repeat (first | exact Drawn0.refl _ | apply Drawn0.step)⟩
  case rest =>
    clear HC3
    try clear p2
    try clear c4
    try clear c4b0
    obtain ⟨kq, x17_2, rfl, HA, HJ2, ⟨mc2, rfl⟩⟩ := hcut
    cases kq with
    | zero => exact absurd HA.out (by simp [num_Get.j0])
    | succ kj2 =>
      have H := HA.out
      clear HA
      simp only [num_Get.j0] at H
      by_cases c5 : x17_2 = true
      · subst c5
        have H1 : (some (0, 0, 9)) = some (r1, r2, r3) := by rw [if_pos rfl] at H; exact H
        clear H
        have H := H1
        clear H1
        simp only [Option.some.injEq, Prod.mk.injEq] at H
        obtain ⟨rfl, rfl, rfl⟩ := H
        go_wp2
        go_ret3
        exact ⟨by first | rfl | (simp; done) | (simp [*]; done), by repeat (first | exact Drawn0.refl _ | apply Drawn0.step)⟩
      · replace c5 := Bool.eq_false_iff.mpr c5
        subst c5
        have H1 : (num_Get.l0 kj2 l0 a1 0 0) = some (r1, r2, r3) := by rw [if_neg (show ¬ (false = true) by decide)] at H; exact H
        clear H
        have H := H1
        clear H1
        have H' := Aside0.mk H
        clear H
        go_wp2
        go_loopg [7, 18] kj2 (fun kq v7 v18 w' => ∃ (x7_2 : Int) (x18_2 : Int), v7 = .int .u64 x7_2 ∧ v18 = .int .i64 x18_2 ∧ Aside0 (num_Get.l0 kq l0 a1 x7_2 x18_2 = some (r1, r2, r3)) ∧ Aside0 (kq ≤ kj2) ∧ Drawn0 w w')
        case atStart => exact ⟨(0), (0), (by first | rfl | (simp; done) | (simp [*]; done)), (by first | rfl | (simp; done) | (simp [*]; done)), H', ⟨Nat.le_refl _⟩, by repeat (first | exact Drawn0.refl _ | apply Drawn0.step)⟩
        case round =>
          clear H'
          try clear c2
          try clear p2
          try clear c4
          try clear c4b0
          try clear c5
          try clear p2
          obtain ⟨x7_2, x18_2, rfl, rfl, HA, HK2, ⟨m2, rfl⟩⟩ := hrel
          cases gk with
          | zero => exact absurd HA.out (by simp [num_Get.l0])
          | succ k2 =>
            have H := HA.out
            clear HA
            simp only [num_Get.l0] at H
            by_cases c6 : x18_2 < 10
            · rw [if_pos c6] at H
              have c6b0 : decide (x18_2 < 10) = true := decide_eq_true c6
              clear c6
              by_cases c7 : (wrap64 (a1 + x18_2)) = (l0.length : Int)
              · rw [if_pos c7] at H
                have c7b0 : ((wrap64 (a1 + x18_2)) == (l0.length : Int)) = true := beq_iff_eq.mpr c7
                have c7b1 : ((wrap64 (a1 + x18_2)) != (l0.length : Int)) = false := bne_eq_false_iff_eq.mpr c7
                clear c7
                simp only [Option.some.injEq, Prod.mk.injEq] at H
                obtain ⟨rfl, rfl, rfl⟩ := H
                go_wp2
                go_ret3
                exact ⟨by first | rfl | (simp; done) | (simp [*]; done), by repeat (first | exact Drawn0.refl _ | apply Drawn0.step)⟩
              · rw [if_neg c7] at H
                have c7b0 : ((wrap64 (a1 + x18_2)) == (l0.length : Int)) = false := beq_eq_false_iff_ne.mpr c7
                have c7b1 : ((wrap64 (a1 + x18_2)) != (l0.length : Int)) = true := bne_iff_ne.mpr c7
                obtain ⟨ji8, hji8⟩ : ∃ j_ : Int, (wrap64 (a1 + x18_2)) = j_ := ⟨_, rfl⟩
                replace H : (if 0 ≤ (ji8) then (if (ji8) < (l0.length : Int) then (if (rd l0 (ji8)) < 128 then (if (rd l0 (ji8)) = 0 then (if x18_2 > 0 then (some (0, 0, 4)) else (if x18_2 = 9 then (if (rd l0 (ji8)) > 1 then (some (0, 0, 4)) else (if 0 ≤ (wrap64 (7 * x18_2)) then (some (Go.bits .or .u64 x7_2 (shl .u64 (IntKind.u64.wrap (rd l0 (ji8))) (wrap64 (7 * x18_2))), wrap64 ((ji8) + 1), 0)) else (none))) else (if 0 ≤ (wrap64 (7 * x18_2)) then (some (Go.bits .or .u64 x7_2 (shl .u64 (IntKind.u64.wrap (rd l0 (ji8))) (wrap64 (7 * x18_2))), wrap64 ((ji8) + 1), 0)) else (none)))) else (if x18_2 = 9 then (if (rd l0 (ji8)) > 1 then (some (0, 0, 4)) else (if 0 ≤ (wrap64 (7 * x18_2)) then (some (Go.bits .or .u64 x7_2 (shl .u64 (IntKind.u64.wrap (rd l0 (ji8))) (wrap64 (7 * x18_2))), wrap64 ((ji8) + 1), 0)) else (none))) else (if 0 ≤ (wrap64 (7 * x18_2)) then (some (Go.bits .or .u64 x7_2 (shl .u64 (IntKind.u64.wrap (rd l0 (ji8))) (wrap64 (7 * x18_2))), wrap64 ((ji8) + 1), 0)) else (none)))) else (if 0 ≤ (wrap64 (7 * x18_2)) then (num_Get.l0 k2 l0 a1 (Go.bits .or .u64 x7_2 (shl .u64 (IntKind.u64.wrap (Go.bits .and .u8 (rd l0 (ji8)) 127)) (wrap64 (7 * x18_2)))) (wrap64 (x18_2 + 1))) else (none))) else (none)) else (none)) = some (r1, r2, r3) := by first | (rw [hji8] at H; exact H) | (simp only [hji8] at H ⊢; exact H)
                (try rw [hji8] at c7b0)
                (try rw [hji8] at c7b1)
                have hji8w : (IntKind.i64.wrap (a1 + x18_2)) = ji8 := (i64_w _).trans hji8
                by_cases c9 : 0 ≤ (ji8)
                · rw [if_pos c9] at H
                  have c9b0 : decide (0 ≤ (ji8)) = true := decide_eq_true c9
                  clear c9
                  by_cases c10 : (ji8) < (l0.length : Int)
                  · rw [if_pos c10] at H
                    have c10b0 : decide ((ji8) < (l0.length : Int)) = true := decide_eq_true c10
                    clear c10
                    by_cases c11 : (rd l0 (ji8)) < 128
                    · rw [if_pos c11] at H
                      have c11b0 : decide ((rd l0 (ji8)) < 128) = true := decide_eq_true c11
                      clear c11
                      by_cases c12 : (rd l0 (ji8)) = 0
                      · rw [if_pos c12] at H
                        have c12b0 : ((rd l0 (ji8)) == 0) = true := beq_iff_eq.mpr c12
                        have c12b1 : ((rd l0 (ji8)) != 0) = false := bne_eq_false_iff_eq.mpr c12
                        clear c12
                        by_cases c13 : x18_2 > 0
                        · rw [if_pos c13] at H
                          have c13b0 : decide (0 < x18_2) = true := decide_eq_true c13
                          clear c13
                          simp only [Option.some.injEq, Prod.mk.injEq] at H
                          obtain ⟨rfl, rfl, rfl⟩ := H
                          have p310 : 0 ≤ ((ji8) : Int) := of_decide_eq_true (by first | (with_reducible assumption) | assumption)
                          have q310 : (ji8) < (l0.length : Int) := of_decide_eq_true (by first | (with_reducible assumption) | assumption)
                          obtain ⟨ad310, e310, hx310_0⟩ := Kd.at_int HR0.out (ji8) p310 q310
                          cases e310
                          replace p310 := eq_true p310
                          replace q310 := eq_true q310
                          go_wp2
                          go_ret3
                          exact ⟨by first | rfl | (simp; done) | (simp only [← hji8] <;> (first | rfl | simp)) | (simp [*]; done), by repeat (first | exact Drawn0.refl _ | apply Drawn0.step)⟩
                        · rw [if_neg c13] at H
                          have c13b0 : decide (0 < x18_2) = false := decide_eq_false c13
                          clear c13
                          by_cases c14 : x18_2 = 9
                          · rw [if_pos c14] at H
                            have c14b0 : (x18_2 == 9) = true := beq_iff_eq.mpr c14
                            have c14b1 : (x18_2 != 9) = false := bne_eq_false_iff_eq.mpr c14
                            clear c14
                            by_cases c15 : (rd l0 (ji8)) > 1
                            · rw [if_pos c15] at H
                              have c15b0 : decide (1 < (rd l0 (ji8))) = true := decide_eq_true c15
                              clear c15
                              simp only [Option.some.injEq, Prod.mk.injEq] at H
                              obtain ⟨rfl, rfl, rfl⟩ := H
                              have p310 : 0 ≤ ((ji8) : Int) := of_decide_eq_true (by first | (with_reducible assumption) | assumption)
                              have q310 : (ji8) < (l0.length : Int) := of_decide_eq_true (by first | (with_reducible assumption) | assumption)
                              obtain ⟨ad310, e310, hx310_0⟩ := Kd.at_int HR0.out (ji8) p310 q310
                              cases e310
                              replace p310 := eq_true p310
                              replace q310 := eq_true q310
                              go_wp2
                              go_ret3
                              exact ⟨by first | rfl | (simp; done) | (simp only [← hji8] <;> (first | rfl | simp)) | (simp [*]; done), by repeat (first | exact Drawn0.refl _ | apply Drawn0.step)⟩
                            · rw [if_neg c15] at H
                              have c15b0 : decide (1 < (rd l0 (ji8))) = false := decide_eq_false c15
                              clear c15
                              obtain ⟨ji16, hji16⟩ : ∃ j_ : Int, (wrap64 (7 * x18_2)) = j_ := ⟨_, rfl⟩
                              replace H : (if 0 ≤ (ji16) then (some (Go.bits .or .u64 x7_2 (shl .u64 (IntKind.u64.wrap (rd l0 (ji8))) (ji16)), wrap64 ((ji8) + 1), 0)) else (none)) = some (r1, r2, r3) := by first | (rw [hji16] at H; exact H) | (simp only [hji16] at H ⊢; exact H)
                              have hji16w : (IntKind.i64.wrap (7 * x18_2)) = ji16 := (i64_w _).trans hji16
                              by_cases c17 : 0 ≤ (ji16)
                              · rw [if_pos c17] at H
                                have c17b0 := eq_true c17
                                have c17b1 : decide (0 ≤ (ji16)) = true := decide_eq_true c17
                                clear c17
                                obtain ⟨ji18, hji18⟩ : ∃ j_ : Int, (shl .u64 (IntKind.u64.wrap (rd l0 (ji8))) (ji16)) = j_ := ⟨_, rfl⟩
                                replace H : (some (Go.bits .or .u64 x7_2 (ji18), wrap64 ((ji8) + 1), 0)) = some (r1, r2, r3) := by first | (rw [hji18] at H; exact H) | (simp only [hji18] at H ⊢; exact H)
                                have hji18_ : (IntKind.u64.wrap ((IntKind.u64.wrap (rd l0 (ji8))) * 2 ^ min (ji16).toNat 64)) = ji18 := hji18
                                have hji18z : (ji16) ≤ 64 → (IntKind.u64.wrap ((IntKind.u64.wrap (rd l0 (ji8))) * 2 ^ (ji16).toNat)) = ji18 := shl_small hji18
                                simp only [Option.some.injEq, Prod.mk.injEq] at H
                                obtain ⟨rfl, rfl, rfl⟩ := H
                                have p310 : 0 ≤ ((ji8) : Int) := of_decide_eq_true (by first | (with_reducible assumption) | assumption)
                                have q310 : (ji8) < (l0.length : Int) := of_decide_eq_true (by first | (with_reducible assumption) | assumption)
                                obtain ⟨ad310, e310, hx310_0⟩ := Kd.at_int HR0.out (ji8) p310 q310
                                cases e310
                                replace p310 := eq_true p310
                                replace q310 := eq_true q310
                                go_wp2
                                go_ret3
                                exact ⟨by first | rfl | (simp; done) | (simp only [← hji8, ← hji16, ← hji18] <;> (first | rfl | simp)) | (simp [*]; done), by repeat (first | exact Drawn0.refl _ | apply Drawn0.step)⟩
                              · rw [if_neg c17] at H
                                exact absurd H (by simp)
                          · rw [if_neg c14] at H
                            have c14b0 : (x18_2 == 9) = false := beq_eq_false_iff_ne.mpr c14
                            have c14b1 : (x18_2 != 9) = true := bne_iff_ne.mpr c14
                            obtain ⟨ji19, hji19⟩ : ∃ j_ : Int, (wrap64 (7 * x18_2)) = j_ := ⟨_, rfl⟩
                            replace H : (if 0 ≤ (ji19) then (some (Go.bits .or .u64 x7_2 (shl .u64 (IntKind.u64.wrap (rd l0 (ji8))) (ji19)), wrap64 ((ji8) + 1), 0)) else (none)) = some (r1, r2, r3) := by first | (rw [hji19] at H; exact H) | (simp only [hji19] at H ⊢; exact H)
                            have hji19w : (IntKind.i64.wrap (7 * x18_2)) = ji19 := (i64_w _).trans hji19
                            by_cases c20 : 0 ≤ (ji19)
                            · rw [if_pos c20] at H
                              have c20b0 := eq_true c20
                              have c20b1 : decide (0 ≤ (ji19)) = true := decide_eq_true c20
                              clear c20
                              obtain ⟨ji21, hji21⟩ : ∃ j_ : Int, (shl .u64 (IntKind.u64.wrap (rd l0 (ji8))) (ji19)) = j_ := ⟨_, rfl⟩
                              replace H : (some (Go.bits .or .u64 x7_2 (ji21), wrap64 ((ji8) + 1), 0)) = some (r1, r2, r3) := by first | (rw [hji21] at H; exact H) | (simp only [hji21] at H ⊢; exact H)
                              have hji21_ : (IntKind.u64.wrap ((IntKind.u64.wrap (rd l0 (ji8))) * 2 ^ min (ji19).toNat 64)) = ji21 := hji21
                              have hji21z : (ji19) ≤ 64 → (IntKind.u64.wrap ((IntKind.u64.wrap (rd l0 (ji8))) * 2 ^ (ji19).toNat)) = ji21 := shl_small hji21
                              simp only [Option.some.injEq, Prod.mk.injEq] at H
                              obtain ⟨rfl, rfl, rfl⟩ := H
                              have p310 : 0 ≤ ((ji8) : Int) := of_decide_eq_true (by first | (with_reducible assumption) | assumption)
                              have q310 : (ji8) < (l0.length : Int) := of_decide_eq_true (by first | (with_reducible assumption) | assumption)
                              obtain ⟨ad310, e310, hx310_0⟩ := Kd.at_int HR0.out (ji8) p310 q310
                              cases e310
                              replace p310 := eq_true p310
                              replace q310 := eq_true q310
                              go_wp2
                              go_ret3
                              exact ⟨by first | rfl | (simp; done) | (simp only [← hji8, ← hji19, ← hji21] <;> (first | rfl | simp)) | (simp [*]; done), by repeat (first | exact Drawn0.refl _ | apply Drawn0.step)⟩
                            · rw [if_neg c20] at H
                              exact absurd H (by simp)
                      · rw [if_neg c12] at H
                        have c12b0 : ((rd l0 (ji8)) == 0) = false := beq_eq_false_iff_ne.mpr c12
                        have c12b1 : ((rd l0 (ji8)) != 0) = true := bne_iff_ne.mpr c12
                        by_cases c22 : x18_2 = 9
                        · rw [if_pos c22] at H
                          have c22b0 : (x18_2 == 9) = true := beq_iff_eq.mpr c22
                          have c22b1 : (x18_2 != 9) = false := bne_eq_false_iff_eq.mpr c22
                          clear c22
                          by_cases c23 : (rd l0 (ji8)) > 1
                          · rw [if_pos c23] at H
                            have c23b0 : decide (1 < (rd l0 (ji8))) = true := decide_eq_true c23
                            clear c23
                            simp only [Option.some.injEq, Prod.mk.injEq] at H
                            obtain ⟨rfl, rfl, rfl⟩ := H
                            have p310 : 0 ≤ ((ji8) : Int) := of_decide_eq_true (by first | (with_reducible assumption) | assumption)
                            have q310 : (ji8) < (l0.length : Int) := of_decide_eq_true (by first | (with_reducible assumption) | assumption)
                            obtain ⟨ad310, e310, hx310_0⟩ := Kd.at_int HR0.out (ji8) p310 q310
                            cases e310
                            replace p310 := eq_true p310
                            replace q310 := eq_true q310
                            go_wp2
                            go_ret3
                            exact ⟨by first | rfl | (simp; done) | (simp only [← hji8] <;> (first | rfl | simp)) | (simp [*]; done), by repeat (first | exact Drawn0.refl _ | apply Drawn0.step)⟩
                          · rw [if_neg c23] at H
                            have c23b0 : decide (1 < (rd l0 (ji8))) = false := decide_eq_false c23
                            clear c23
                            obtain ⟨ji24, hji24⟩ : ∃ j_ : Int, (wrap64 (7 * x18_2)) = j_ := ⟨_, rfl⟩
                            replace H : (if 0 ≤ (ji24) then (some (Go.bits .or .u64 x7_2 (shl .u64 (IntKind.u64.wrap (rd l0 (ji8))) (ji24)), wrap64 ((ji8) + 1), 0)) else (none)) = some (r1, r2, r3) := by first | (rw [hji24] at H; exact H) | (simp only [hji24] at H ⊢; exact H)
                            have hji24w : (IntKind.i64.wrap (7 * x18_2)) = ji24 := (i64_w _).trans hji24
                            by_cases c25 : 0 ≤ (ji24)
                            · rw [if_pos c25] at H
                              have c25b0 := eq_true c25
                              have c25b1 : decide (0 ≤ (ji24)) = true := decide_eq_true c25
                              clear c25
                              obtain ⟨ji26, hji26⟩ : ∃ j_ : Int, (shl .u64 (IntKind.u64.wrap (rd l0 (ji8))) (ji24)) = j_ := ⟨_, rfl⟩
                              replace H : (some (Go.bits .or .u64 x7_2 (ji26), wrap64 ((ji8) + 1), 0)) = some (r1, r2, r3) := by first | (rw [hji26] at H; exact H) | (simp only [hji26] at H ⊢; exact H)
                              have hji26_ : (IntKind.u64.wrap ((IntKind.u64.wrap (rd l0 (ji8))) * 2 ^ min (ji24).toNat 64)) = ji26 := hji26
                              have hji26z : (ji24) ≤ 64 → (IntKind.u64.wrap ((IntKind.u64.wrap (rd l0 (ji8))) * 2 ^ (ji24).toNat)) = ji26 := shl_small hji26
                              simp only [Option.some.injEq, Prod.mk.injEq] at H
                              obtain ⟨rfl, rfl, rfl⟩ := H
                              have p310 : 0 ≤ ((ji8) : Int) := of_decide_eq_true (by first | (with_reducible assumption) | assumption)
                              have q310 : (ji8) < (l0.length : Int) := of_decide_eq_true (by first | (with_reducible assumption) | assumption)
                              obtain ⟨ad310, e310, hx310_0⟩ := Kd.at_int HR0.out (ji8) p310 q310
                              cases e310
                              replace p310 := eq_true p310
                              replace q310 := eq_true q310
                              go_wp2
                              go_ret3
                              exact ⟨by first | rfl | (simp; done) | (simp only [← hji8, ← hji24, ← hji26] <;> (first | rfl | simp)) | (simp [*]; done), by repeat (first | exact Drawn0.refl _ | apply Drawn0.step)⟩
                            · rw [if_neg c25] at H
                              exact absurd H (by simp)
                        · rw [if_neg c22] at H
                          have c22b0 : (x18_2 == 9) = false := beq_eq_false_iff_ne.mpr c22
                          have c22b1 : (x18_2 != 9) = true := bne_iff_ne.mpr c22
                          obtain ⟨ji27, hji27⟩ : ∃ j_ : Int, (wrap64 (7 * x18_2)) = j_ := ⟨_, rfl⟩
                          replace H : (if 0 ≤ (ji27) then (some (Go.bits .or .u64 x7_2 (shl .u64 (IntKind.u64.wrap (rd l0 (ji8))) (ji27)), wrap64 ((ji8) + 1), 0)) else (none)) = some (r1, r2, r3) := by first | (rw [hji27] at H; exact H) | (simp only [hji27] at H ⊢; exact H)
                          have hji27w : (IntKind.i64.wrap (7 * x18_2)) = ji27 := (i64_w _).trans hji27
                          by_cases c28 : 0 ≤ (ji27)
                          · rw [if_pos c28] at H
                            have c28b0 := eq_true c28
                            have c28b1 : decide (0 ≤ (ji27)) = true := decide_eq_true c28
                            clear c28
                            obtain ⟨ji29, hji29⟩ : ∃ j_ : Int, (shl .u64 (IntKind.u64.wrap (rd l0 (ji8))) (ji27)) = j_ := ⟨_, rfl⟩
                            replace H : (some (Go.bits .or .u64 x7_2 (ji29), wrap64 ((ji8) + 1), 0)) = some (r1, r2, r3) := by first | (rw [hji29] at H; exact H) | (simp only [hji29] at H ⊢; exact H)
                            have hji29_ : (IntKind.u64.wrap ((IntKind.u64.wrap (rd l0 (ji8))) * 2 ^ min (ji27).toNat 64)) = ji29 := hji29
                            have hji29z : (ji27) ≤ 64 → (IntKind.u64.wrap ((IntKind.u64.wrap (rd l0 (ji8))) * 2 ^ (ji27).toNat)) = ji29 := shl_small hji29
                            simp only [Option.some.injEq, Prod.mk.injEq] at H
                            obtain ⟨rfl, rfl, rfl⟩ := H
                            have p310 : 0 ≤ ((ji8) : Int) := of_decide_eq_true (by first | (with_reducible assumption) | assumption)
                            have q310 : (ji8) < (l0.length : Int) := of_decide_eq_true (by first | (with_reducible assumption) | assumption)
                            obtain ⟨ad310, e310, hx310_0⟩ := Kd.at_int HR0.out (ji8) p310 q310
                            cases e310
                            replace p310 := eq_true p310
                            replace q310 := eq_true q310
                            go_wp2
                            go_ret3
                            exact ⟨by first | rfl | (simp; done) | (simp only [← hji8, ← hji27, ← hji29] <;> (first | rfl | simp)) | (simp [*]; done), by repeat (first | exact Drawn0.refl _ | apply Drawn0.step)⟩
                          · rw [if_neg c28] at H
                            exact absurd H (by simp)
                    · rw [if_neg c11] at H
                      have c11b0 : decide ((rd l0 (ji8)) < 128) = false := decide_eq_false c11
                      clear c11
                      obtain ⟨ji30, hji30⟩ : ∃ j_ : Int, (wrap64 (7 * x18_2)) = j_ := ⟨_, rfl⟩
                      replace H : (if 0 ≤ (ji30) then (num_Get.l0 k2 l0 a1 (Go.bits .or .u64 x7_2 (shl .u64 (IntKind.u64.wrap (Go.bits .and .u8 (rd l0 (ji8)) 127)) (ji30))) (wrap64 (x18_2 + 1))) else (none)) = some (r1, r2, r3) := by first | (rw [hji30] at H; exact H) | (simp only [hji30] at H ⊢; exact H)
                      have hji30w : (IntKind.i64.wrap (7 * x18_2)) = ji30 := (i64_w _).trans hji30
                      by_cases c31 : 0 ≤ (ji30)
                      · rw [if_pos c31] at H
                        have c31b0 := eq_true c31
                        have c31b1 : decide (0 ≤ (ji30)) = true := decide_eq_true c31
                        clear c31
                        obtain ⟨ji32, hji32⟩ : ∃ j_ : Int, (shl .u64 (IntKind.u64.wrap (Go.bits .and .u8 (rd l0 (ji8)) 127)) (ji30)) = j_ := ⟨_, rfl⟩
                        replace H : (num_Get.l0 k2 l0 a1 (Go.bits .or .u64 x7_2 (ji32)) (wrap64 (x18_2 + 1))) = some (r1, r2, r3) := by first | (rw [hji32] at H; exact H) | (simp only [hji32] at H ⊢; exact H)
                        have hji32_ : (IntKind.u64.wrap ((IntKind.u64.wrap (Go.bits .and .u8 (rd l0 (ji8)) 127)) * 2 ^ min (ji30).toNat 64)) = ji32 := hji32
                        have hji32z : (ji30) ≤ 64 → (IntKind.u64.wrap ((IntKind.u64.wrap (Go.bits .and .u8 (rd l0 (ji8)) 127)) * 2 ^ (ji30).toNat)) = ji32 := shl_small hji32
                        have H' := Aside0.mk H
                        clear H
                        have p310 : 0 ≤ ((ji8) : Int) := of_decide_eq_true (by first | (with_reducible assumption) | assumption)
                        have q310 : (ji8) < (l0.length : Int) := of_decide_eq_true (by first | (with_reducible assumption) | assumption)
                        obtain ⟨ad310, e310, hx310_0⟩ := Kd.at_int HR0.out (ji8) p310 q310
                        cases e310
                        replace p310 := eq_true p310
                        replace q310 := eq_true q310
                        go_wp2
                        go_roundg k2
                        case measure => have := HJ2.out; have := HK2.out; omega
                        case rel => exact ⟨(Go.bits .or .u64 x7_2 (ji32)), (wrap64 (x18_2 + 1)), (by first | rfl | (simp; done) | (simp only [← hji32] <;> (first | rfl | simp)) | (simp [*]; done)), (by first | rfl | (simp; done) | (simp [*]; done)), H', ⟨by have := HJ2.out; have := HK2.out; omega⟩, by repeat (first | exact Drawn0.refl _ | apply Drawn0.step)⟩
                      · rw [if_neg c31] at H
                        exact absurd H (by simp)
                  · rw [if_neg c10] at H
                    exact absurd H (by simp)
                · rw [if_neg c9] at H
                  exact absurd H (by simp)
            · rw [if_neg c6] at H
              have c6b0 : decide (x18_2 < 10) = false := decide_eq_false c6
              clear c6
              simp only [Option.some.injEq, Prod.mk.injEq] at H
              obtain ⟨rfl, rfl, rfl⟩ := H
              go_wp2
              go_ret3
              exact ⟨by first | rfl | (simp; done) | (simp [*]; done), by repeat (first | exact Drawn0.refl _ | apply Drawn0.step)⟩

end Go.Proofs.Ytmifoihfpjomaaa.F

-- F39
namespace Go.Proofs.Ytmifoihfpjomaaa.F
open Go.RowKit Go.Proofs.YtmifoihfpjomaaaW.PrintWords Go.Proofs.YtmifoihfpjomaaaW.PrintLast Go.Proofs.YtmifoihfpjomaaaW.PrintMore
attribute [local go_sem] max2_int min2_int max_two min_two max_three min_three max_four min_four   -- for this text's walks alone
set_option linter.unusedVariables false
set_option linter.unusedSimpArgs false

/-! ### strongroomref01_Put: function 39 -/
def strongroomref01_Put.f : Nat → Int → Option (ByteArray)
  | 0, _ => none
  | k + 1, a0 => if a0 < 128 then (some (strOfNums (([(a0) % 256] : List Int)))) else ((some (([(IntKind.u64.wrap ((Int.tmod a0 128) + 128)) % 256] : List Int) : List Int)).bind fun y194 => ((strongroomref01_Put.f k (IntKind.u64.wrap (Int.tdiv a0 128))).bind fun t197 => (if (strOfNums y194).size + t197.size ≤ 9223372036854775807 then (some ((strOfNums y194) ++ t197)) else (none))))
def strongroomref01_Put.T3 : Bool × List (List Nat × List Nat) := (true, [([], []), ([0], [0]), ([1], [1]), ([2], [2]), ([3], [3]), ([4], [4]), ([], []), ([6], [6]), ([7], [7]), ([5, 8], [5, 8]), ([9, 8, 0, 1, 2, 3, 4, 5, 6, 7, 8, 9], [9])])
def strongroomref01_Put.B3 : List Nat := [0, 1, 3, 7, 15, 31, 0, 64, 192, 511, 1023]
theorem strongroomref01_Put.tab3 : rtab .any (opsOf Try.f39 3) = strongroomref01_Put.T3 := by kernel_rfl
theorem strongroomref01_Put.bits3 : waitsOk strongroomref01_Put.T3.2 strongroomref01_Put.B3 = true := by kernel_rfl
set_option maxHeartbeats 8000000 in
set_option maxRecDepth 100000 in
theorem strongroomref01_Put.calls (k : Nat) : ∀ (a0 : Int) (r : ByteArray) (w : World) (h : strongroomref01_Put.f k a0 = some r),
    Calls Try.prog 39 #[.int .u64 a0] w fun e w' => e = .returned (.string r) ∧ Below w.heap.size w w' := by
  induction k using Nat.strongRecOn with
  | _ k ih =>
  intro a0 r w h
  cases k with
  | zero => exact absurd h (by simp [strongroomref01_Put.f])
  | succ k =>
  simp only [strongroomref01_Put.f] at h
  have HB := Aside0.mk (Below.refl w.heap.size w)
  have H : (if a0 < 128 then (some (strOfNums (([(a0) % 256] : List Int)))) else ((some (([(IntKind.u64.wrap ((Int.tmod a0 128) + 128)) % 256] : List Int) : List Int)).bind fun y194 => ((strongroomref01_Put.f k (IntKind.u64.wrap (Int.tdiv a0 128))).bind fun t197 => (if (strOfNums y194).size + t197.size ≤ 9223372036854775807 then (some ((strOfNums y194) ++ t197)) else (none))))) = some r := h
  clear h
  by_cases c2 : a0 < 128
  · rw [if_pos c2] at H
    have c2b0 : decide (a0 < 128) = true := decide_eq_true c2
    clear c2
    obtain ⟨y191, hy191⟩ : ∃ y_ : List Int, y_ = (([(a0) % 256] : List Int)) := ⟨_, rfl⟩
    replace H : (some (strOfNums y191)) = some r := by first | (rw [hy191]; with_reducible exact H) | (have H2_ := (Option.bind_some _ _).symm.trans H; rw [hy191]; with_reducible exact H2_) | (have H2_ := (Option.bind_some _ _).symm.trans H; with_reducible exact H2_) | with_reducible exact H | (rw [hy191]; exact H) | exact H
    have Ny191 := Aside0.mk hy191
    clear hy191
    obtain rfl := Option.some.inj H
    go_enter Try.func39, Try.ntmps39
    go_wp2_with (first | ((with_reducible refine gate_dst (N := 7) rfl ?_); refine Kd.R_lit (Kd.int .u8) _ 5 ?hg (N := 7) ?hd (xs := ([(a0) % 256] : List Int)) (inner := [.int .u8 ((a0) % 256)]) (ok := fun _ => True) (okp := fun _ => True) ?hr ?hp (fun _ hk => hk) trivial (Below.refl _ _) (Nat.le_refl _) (by simp) ?_; (case hd => rfl); (case hg => rfl); (case hr => first | (go_simp; done) | (go_simp; rfl)); (case hp => exact (Reps.one (show Kd.M (Kd.int .u8) _ _ _ ((a0) % 256) [.int .u8 ((a0) % 256)] from rfl) (Reps.none _ _))); intro v192 w3 ho4 hb hg_ hnew_; clear hg_ hnew_; (first | rw [← Ny191.out] at ho4 | (simp only [Int.reduceToNat] at ho4; rw [← Ny191.out] at ho4)); have n0_ := Aside0.mk (Kd.R_lower ho4 (below_size (by repeat (first | (with_reducible first | exact HB.out | apply below_alloc | apply pw_below_drewN | apply below_drew1) | exact HB.out)))); have n1_ := Aside0.mk (below_step (by repeat (first | (with_reducible first | exact HB.out | apply below_alloc | apply pw_below_drewN | apply below_drew1) | exact HB.out)) hb); clear HB; have HO193 := n0_; have HB := n1_; clear n0_ n1_; clear hb ho4; have hcv5 := own_string (P := Try.prog) Try.underlying45 Try.underlying5 Try.underlying9 (Kd.own_of_R HO193.out)))
    go_ret
    exact ⟨by first | rfl | (simp [errW_none, errW_some] <;> rfl) | (simp [*, errW_none, errW_some] <;> rfl), by repeat (first | (with_reducible first | exact HB.out | apply below_alloc | apply pw_below_drewN | apply below_drew1) | exact HB.out)⟩
  · rw [if_neg c2] at H
    have c2b0 : decide (a0 < 128) = false := decide_eq_false c2
    clear c2
    obtain ⟨y194, hy194⟩ : ∃ y_ : List Int, y_ = (([(IntKind.u64.wrap ((Int.tmod a0 128) + 128)) % 256] : List Int)) := ⟨_, rfl⟩
    replace H : ((strongroomref01_Put.f k (IntKind.u64.wrap (Int.tdiv a0 128))).bind fun t197 => (if (strOfNums y194).size + t197.size ≤ 9223372036854775807 then (some ((strOfNums y194) ++ t197)) else (none))) = some r := by first | (rw [hy194]; with_reducible exact H) | (have H2_ := (Option.bind_some _ _).symm.trans H; rw [hy194]; with_reducible exact H2_) | (have H2_ := (Option.bind_some _ _).symm.trans H; with_reducible exact H2_) | with_reducible exact H | (rw [hy194]; exact H) | exact H
    have Ny194 := Aside0.mk hy194
    clear hy194
    replace H := Option.bind_eq_some_iff.mp H
    obtain ⟨t197, A60, H⟩ := H
    replace H : (if (strOfNums y194).size + t197.size ≤ 9223372036854775807 then (some ((strOfNums y194) ++ t197)) else (none)) = some r := H
    have A6 := Aside0.mk A60
    clear A60
    by_cases c7 : (strOfNums y194).size + t197.size ≤ 9223372036854775807
    · rw [if_pos c7] at H
      have c7b0 := eq_true c7
      have c7b1 : decide ((strOfNums y194).size + t197.size ≤ 9223372036854775807) = true := decide_eq_true c7
      try have c7b2 : (9223372036854775807 < (strOfNums y194).size + t197.size) = False := eq_false (Nat.not_lt.2 c7)
      obtain rfl := Option.some.inj H
      go_enter Try.func39, Try.ntmps39
      try go_wp2
      have n0_ := Aside0.mk (below_drew1 HB.out)
      clear HB
      have HB := n0_
      clear n0_
      refine start_ (n := 11) (S := fun w' => True) (ds := []) #[false, false, false, false, false, false, false, false, false, false, false] (by kernel_rfl) rfl rfl trivial (fun hHeld => ?_); refine with_tabW strongroomref01_Put.tab3 strongroomref01_Put.bits3 (fun HT_ HW_ => ?_)
      generalize w.drew = w8 at HB hHeld ⊢
      refine pure_ (i := 0) (N := some 9) (v := ?_) (a' := ?_) #[true, false, false, false, false, false, false, false, false, false, false] rfl rfl (any_of HT_.out (by kernel_rfl)) (fun _ _ _ h => h) (Or.inl ⟨by rfl, ?_⟩) ?_ ?_
      rotate_left
      · intro w'
        go_simp
        with_reducible rfl
      rotate_left
      · simp only [Act.put, List.setIfInBounds_toArray, List.set_cons_zero, List.set_cons_succ, i64_w, i32_w]
        rfl
      refine pure_ (i := 1) (N := some 10) (v := ?_) (a' := ?_) #[true, true, false, false, false, false, false, false, false, false, false] rfl rfl (any_of HT_.out (by kernel_rfl)) (fun _ _ _ h => h) (Or.inl ⟨by rfl, ?_⟩) ?_ ?_
      rotate_left
      · intro w'
        go_simp
        with_reducible rfl
      rotate_left
      · simp only [Act.put, List.setIfInBounds_toArray, List.set_cons_zero, List.set_cons_succ, i64_w, i32_w]
        rfl
      refine pure_ (i := 2) (N := some 11) (v := ?_) (a' := ?_) #[true, true, true, false, false, false, false, false, false, false, false] rfl rfl (any_of HT_.out (by kernel_rfl)) (fun _ _ _ h => h) (Or.inl ⟨by rfl, ?_⟩) ?_ ?_
      rotate_left
      · intro w'
        go_simp
        with_reducible rfl
      rotate_left
      · simp only [Act.put, List.setIfInBounds_toArray, List.set_cons_zero, List.set_cons_succ, i64_w, i32_w]
        rfl
      refine pure_ (i := 3) (N := some 12) (v := ?_) (a' := ?_) #[true, true, true, true, false, false, false, false, false, false, false] rfl rfl (any_of HT_.out (by kernel_rfl)) (fun _ _ _ h => h) (Or.inl ⟨by rfl, ?_⟩) ?_ ?_
      rotate_left
      · intro w'
        go_simp
        with_reducible rfl
      rotate_left
      · simp only [Act.put, List.setIfInBounds_toArray, List.set_cons_zero, List.set_cons_succ, i64_w, i32_w]
        rfl
      refine pure_ (i := 6) (N := some 15) (v := ?_) (a' := ?_) #[true, true, true, true, false, false, true, false, false, false, false] rfl rfl (any_of HT_.out (by kernel_rfl)) (fun _ _ _ h => h) (Or.inl ⟨by rfl, ?_⟩) ?_ ?_
      rotate_left
      · intro w'
        go_simp
        with_reducible rfl
      rotate_left
      · simp only [Act.put, List.setIfInBounds_toArray, List.set_cons_zero, List.set_cons_succ, i64_w, i32_w]
        rfl
      refine pure_ (i := 7) (N := some 16) (v := ?_) (a' := ?_) #[true, true, true, true, false, false, true, true, false, false, false] rfl rfl (any_of HT_.out (by kernel_rfl)) (fun _ _ _ h => h) (Or.inl ⟨by rfl, ?_⟩) ?_ ?_
      rotate_left
      · intro w'
        go_simp
        with_reducible rfl
      rotate_left
      · simp only [Act.put, List.setIfInBounds_toArray, List.set_cons_zero, List.set_cons_succ, i64_w, i32_w]
        rfl
      refine join_ (σ := Value) 2 #[true, true, true, true, true, true, true, true, true, false, false] (fun s_ => [(13, s_), (14, .string (strOfNums y194)), (17, .string t197)]) (fun s_ w' => (Kd.R (Kd.int .u8) 5 w' w.heap.size (fun _ => True) s_ y194) ∧ (Below w.heap.size w w')) ?_ ?_
      rotate_left
      · intro hCont
        refine two_ (i := 4) (j := 8) (Ni := some 13) (Nj := some 17) #[true, true, true, true, true, false, true, true, false, false, false] #[true, true, true, true, false, false, true, true, true, false, false] rfl rfl rfl rfl (two_of HT_.out (by kernel_rfl)) (by decide) (by decide) (fun K hK => ?_) (fun K hK => ?_)
        · skip
          refine Kd.R_lit_step (Kd.int .u8) _ 5 ?hg (N := 13) ?hd (xs := ([(IntKind.u64.wrap ((Int.tmod a0 128) + 128)) % 256] : List Int)) (inner := [.int .u8 ((IntKind.u64.wrap ((Int.tmod a0 128) + 128)) % 256)]) (ok := fun _ => True) (okp := fun _ => True) ?hr ?hp (fun _ hk => hk) trivial (Below.refl _ _) (Nat.le_refl _) (by simp) ?_; (case hd => rfl); (case hg => rfl); (case hr => first | (go_simp; done) | (go_simp; rfl)); (case hp => exact (Reps.one (show Kd.M (Kd.int .u8) _ _ _ ((IntKind.u64.wrap ((Int.tmod a0 128) + 128)) % 256) [.int .u8 ((IntKind.u64.wrap ((Int.tmod a0 128) + 128)) % 256)] from rfl) (Reps.none _ _)))
          intro v195 w9 ho10 hb hg_ hnew_
          clear hg_ hnew_
          (first | rw [← Ny194.out] at ho10 | (simp only [Int.reduceToNat] at ho10; rw [← Ny194.out] at ho10))
          have n0_ := Aside0.mk (Kd.R_lower ho10 (below_size (by repeat (first | (with_reducible first | exact HB.out | apply below_alloc | apply pw_below_drewN | apply below_drew1) | exact HB.out))))
          have n1_ := Aside0.mk (below_step (by repeat (first | (with_reducible first | exact HB.out | apply below_alloc | apply pw_below_drewN | apply below_drew1) | exact HB.out)) hb)
          clear HB
          have HO196 := n0_
          have HB := n1_
          clear n0_ n1_
          clear hb ho10
          refine hK.out _ _ trivial (fun hHeld => ?_)
          clear hK K
          refine norm_ (a' := ?_) ?_ ?_
          rotate_left
          · show Act.put _ (some 13) _ = _
            simp only [Act.put, List.setIfInBounds_toArray, List.set_cons_zero, List.set_cons_succ, i64_w, i32_w]
            rfl
          refine two_ (i := 5) (j := 8) (Ni := some 14) (Nj := some 17) #[true, true, true, true, true, true, true, true, false, false, false] #[true, true, true, true, true, false, true, true, true, false, false] rfl rfl rfl rfl (two_of HT_.out (by kernel_rfl)) (by decide) (by decide) (fun K hK => ?_) (fun K hK => ?_)
          · skip
            have hcv11 := own_string (P := Try.prog) Try.underlying45 Try.underlying5 Try.underlying9 (Kd.own_of_R HO196.out)
            refine value_ (w1 := ?_) (v := ?_) (by rfl) rfl ?_ ?_
            rotate_left 2
            · go_simp
              constructor
              · rfl
              · rfl
            clear hcv11
            refine hK.out _ _ trivial (fun hHeld => ?_)
            clear hK K
            refine norm_ (a' := ?_) ?_ ?_
            rotate_left
            · show Act.put _ (some 14) _ = _
              simp only [Act.put, List.setIfInBounds_toArray, List.set_cons_zero, List.set_cons_succ, i64_w, i32_w]
              rfl
            refine one_ (i := 8) (N := some 17) #[true, true, true, true, true, true, true, true, true, false, false] rfl rfl (one_of HT_.out (by kernel_rfl)) (by decide) (fun K hK => ?_)
            refine goes_ Try.func39 (by kernel_rfl) rfl #[.int .u64 (IntKind.u64.wrap (Int.tdiv a0 128))] (by rfl) rfl rfl (by (try simp only [List.map_toArray, List.map_cons, List.map_nil]); first | done | rfl | (simp only [List.length_drop, List.length_take]; rfl)) ?_
            with_reducible refine (ih k (by omega) (IntKind.u64.wrap (Int.tdiv a0 128)) t197 _ A6.out).mono ?_
            rintro e w12 ⟨rfl, hb⟩
            refine ⟨_, rfl, ?_⟩
            have n0_ := Aside0.mk (Kd.R_below (by (with_reducible repeat (first | apply Kd.R_alloc | apply Kd.R_drewN | apply Kd.R_drew)); exact HO196.out) hb)
            have n1_ := Aside0.mk (below_step (by repeat (first | (with_reducible first | exact HB.out | apply below_alloc | apply pw_below_drewN | apply below_drew1) | exact HB.out)) hb)
            clear HO196
            clear HB
            have HO196 := n0_
            have HB := n1_
            clear n0_ n1_
            (try clear hb)
            (try clear hb2)
            (try clear hk)
            (try clear hi)
            refine hK.out _ _ trivial (fun hHeld => ?_)
            clear hK K
            refine norm_ (a' := ?_) ?_ ?_
            rotate_left
            · show Act.put _ (some 17) _ = _
              simp only [Act.put, List.setIfInBounds_toArray, List.set_cons_zero, List.set_cons_succ, i64_w, i32_w]
              rfl
            exact norm_ (by simp only [putAll, Act.put, List.setIfInBounds_toArray, List.set_cons_zero, List.set_cons_succ]) (hCont (v195) _ ⟨(by (with_reducible repeat (first | apply Kd.R_alloc | apply Kd.R_drewN | apply Kd.R_drew)); exact HO196.out), (by repeat (first | (with_reducible first | exact HB.out | apply below_alloc | apply pw_below_drewN | apply below_drew1) | exact HB.out))⟩)
          · skip
            refine goes_ Try.func39 (by kernel_rfl) rfl #[.int .u64 (IntKind.u64.wrap (Int.tdiv a0 128))] (by rfl) rfl rfl (by (try simp only [List.map_toArray, List.map_cons, List.map_nil]); first | done | rfl | (simp only [List.length_drop, List.length_take]; rfl)) ?_
            with_reducible refine (ih k (by omega) (IntKind.u64.wrap (Int.tdiv a0 128)) t197 _ A6.out).mono ?_
            rintro e w11 ⟨rfl, hb⟩
            refine ⟨_, rfl, ?_⟩
            have n0_ := Aside0.mk (Kd.R_below (by (with_reducible repeat (first | apply Kd.R_alloc | apply Kd.R_drewN | apply Kd.R_drew)); exact HO196.out) hb)
            have n1_ := Aside0.mk (below_step (by repeat (first | (with_reducible first | exact HB.out | apply below_alloc | apply pw_below_drewN | apply below_drew1) | exact HB.out)) hb)
            clear HO196
            clear HB
            have HO196 := n0_
            have HB := n1_
            clear n0_ n1_
            (try clear hb)
            (try clear hb2)
            (try clear hk)
            (try clear hi)
            refine hK.out _ _ trivial (fun hHeld => ?_)
            clear hK K
            refine norm_ (a' := ?_) ?_ ?_
            rotate_left
            · show Act.put _ (some 17) _ = _
              simp only [Act.put, List.setIfInBounds_toArray, List.set_cons_zero, List.set_cons_succ, i64_w, i32_w]
              rfl
            refine one_ (i := 5) (N := some 14) #[true, true, true, true, true, true, true, true, true, false, false] rfl rfl (one_of HT_.out (by kernel_rfl)) (by decide) (fun K hK => ?_)
            have hcv12 := own_string (P := Try.prog) Try.underlying45 Try.underlying5 Try.underlying9 (Kd.own_of_R HO196.out)
            refine value_ (w1 := ?_) (v := ?_) (by rfl) rfl ?_ ?_
            rotate_left 2
            · go_simp
              constructor
              · rfl
              · rfl
            clear hcv12
            refine hK.out _ _ trivial (fun hHeld => ?_)
            clear hK K
            refine norm_ (a' := ?_) ?_ ?_
            rotate_left
            · show Act.put _ (some 14) _ = _
              simp only [Act.put, List.setIfInBounds_toArray, List.set_cons_zero, List.set_cons_succ, i64_w, i32_w]
              rfl
            exact norm_ (by simp only [putAll, Act.put, List.setIfInBounds_toArray, List.set_cons_zero, List.set_cons_succ]) (hCont (v195) _ ⟨(by (with_reducible repeat (first | apply Kd.R_alloc | apply Kd.R_drewN | apply Kd.R_drew)); exact HO196.out), (by repeat (first | (with_reducible first | exact HB.out | apply below_alloc | apply pw_below_drewN | apply below_drew1) | exact HB.out))⟩)
        · skip
          refine goes_ Try.func39 (by kernel_rfl) rfl #[.int .u64 (IntKind.u64.wrap (Int.tdiv a0 128))] (by rfl) rfl rfl (by (try simp only [List.map_toArray, List.map_cons, List.map_nil]); first | done | rfl | (simp only [List.length_drop, List.length_take]; rfl)) ?_
          with_reducible refine (ih k (by omega) (IntKind.u64.wrap (Int.tdiv a0 128)) t197 _ A6.out).mono ?_
          rintro e w9 ⟨rfl, hb⟩
          refine ⟨_, rfl, ?_⟩
          have n0_ := Aside0.mk (below_step (by repeat (first | (with_reducible first | exact HB.out | apply below_alloc | apply pw_below_drewN | apply below_drew1) | exact HB.out)) hb)
          clear HB
          have HB := n0_
          clear n0_
          (try clear hb)
          (try clear hb2)
          (try clear hk)
          (try clear hi)
          refine hK.out _ _ trivial (fun hHeld => ?_)
          clear hK K
          refine norm_ (a' := ?_) ?_ ?_
          rotate_left
          · show Act.put _ (some 17) _ = _
            simp only [Act.put, List.setIfInBounds_toArray, List.set_cons_zero, List.set_cons_succ, i64_w, i32_w]
            rfl
          refine one_ (i := 4) (N := some 13) #[true, true, true, true, true, false, true, true, true, false, false] rfl rfl (one_of HT_.out (by kernel_rfl)) (by decide) (fun K hK => ?_)
          refine Kd.R_lit_step (Kd.int .u8) _ 5 ?hg (N := 13) ?hd (xs := ([(IntKind.u64.wrap ((Int.tmod a0 128) + 128)) % 256] : List Int)) (inner := [.int .u8 ((IntKind.u64.wrap ((Int.tmod a0 128) + 128)) % 256)]) (ok := fun _ => True) (okp := fun _ => True) ?hr ?hp (fun _ hk => hk) trivial (Below.refl _ _) (Nat.le_refl _) (by simp) ?_; (case hd => rfl); (case hg => rfl); (case hr => first | (go_simp; done) | (go_simp; rfl)); (case hp => exact (Reps.one (show Kd.M (Kd.int .u8) _ _ _ ((IntKind.u64.wrap ((Int.tmod a0 128) + 128)) % 256) [.int .u8 ((IntKind.u64.wrap ((Int.tmod a0 128) + 128)) % 256)] from rfl) (Reps.none _ _)))
          intro v195 w10 ho11 hb hg_ hnew_
          clear hg_ hnew_
          (first | rw [← Ny194.out] at ho11 | (simp only [Int.reduceToNat] at ho11; rw [← Ny194.out] at ho11))
          have n0_ := Aside0.mk (Kd.R_lower ho11 (below_size (by repeat (first | (with_reducible first | exact HB.out | apply below_alloc | apply pw_below_drewN | apply below_drew1) | exact HB.out))))
          have n1_ := Aside0.mk (below_step (by repeat (first | (with_reducible first | exact HB.out | apply below_alloc | apply pw_below_drewN | apply below_drew1) | exact HB.out)) hb)
          clear HB
          have HO196 := n0_
          have HB := n1_
          clear n0_ n1_
          clear hb ho11
          refine hK.out _ _ trivial (fun hHeld => ?_)
          clear hK K
          refine norm_ (a' := ?_) ?_ ?_
          rotate_left
          · show Act.put _ (some 13) _ = _
            simp only [Act.put, List.setIfInBounds_toArray, List.set_cons_zero, List.set_cons_succ, i64_w, i32_w]
            rfl
          refine one_ (i := 5) (N := some 14) #[true, true, true, true, true, true, true, true, true, false, false] rfl rfl (one_of HT_.out (by kernel_rfl)) (by decide) (fun K hK => ?_)
          have hcv12 := own_string (P := Try.prog) Try.underlying45 Try.underlying5 Try.underlying9 (Kd.own_of_R HO196.out)
          refine value_ (w1 := ?_) (v := ?_) (by rfl) rfl ?_ ?_
          rotate_left 2
          · go_simp
            constructor
            · rfl
            · rfl
          clear hcv12
          refine hK.out _ _ trivial (fun hHeld => ?_)
          clear hK K
          refine norm_ (a' := ?_) ?_ ?_
          rotate_left
          · show Act.put _ (some 14) _ = _
            simp only [Act.put, List.setIfInBounds_toArray, List.set_cons_zero, List.set_cons_succ, i64_w, i32_w]
            rfl
          exact norm_ (by simp only [putAll, Act.put, List.setIfInBounds_toArray, List.set_cons_zero, List.set_cons_succ]) (hCont (v195) _ ⟨(by (with_reducible repeat (first | apply Kd.R_alloc | apply Kd.R_drewN | apply Kd.R_drew)); exact HO196.out), (by repeat (first | (with_reducible first | exact HB.out | apply below_alloc | apply pw_below_drewN | apply below_drew1) | exact HB.out))⟩)
      rintro v195 w13 ⟨h0_, h1_⟩
      have n0_ : Aside0 (Kd.R (Kd.int .u8) 5 w13 w.heap.size (fun _ => True) v195 y194) := ⟨h0_⟩
      have n1_ : Aside0 (Below w.heap.size w w13) := ⟨h1_⟩
      clear HB
      clear h0_ h1_
      have HO196 := n0_
      have HB := n1_
      clear n0_ n1_
      have hHeld := trivial
      refine norm_ (a' := ?_) ?_ ?_
      rotate_left
      · simp only [putAll, Act.put, List.setIfInBounds_toArray, List.set_cons_zero, List.set_cons_succ]
        rfl
      refine pure_ (i := 9) (N := some 18) (v := ?_) (a' := ?_) #[true, true, true, true, true, true, true, true, true, true, false] rfl rfl (any_of HT_.out (by kernel_rfl)) (fun _ _ _ h => h) (Or.inl ⟨by rfl, ?_⟩) ?_ ?_
      rotate_left
      · intro w'
        go_simp
        with_reducible rfl
      rotate_left
      · simp only [Act.put, List.setIfInBounds_toArray, List.set_cons_zero, List.set_cons_succ, i64_w, i32_w]
        rfl
      refine pure_ (i := 10) (N := some 2) (v := ?_) (a' := ?_) #[true, true, true, true, true, true, true, true, true, true, true] rfl rfl (any_of HT_.out (by kernel_rfl)) (fun _ _ _ h => h) (Or.inl ⟨by rfl, ?_⟩) ?_ ?_
      rotate_left
      · intro w'
        go_simp
        with_reducible rfl
      rotate_left
      · simp only [Act.put, List.setIfInBounds_toArray, List.set_cons_zero, List.set_cons_succ, i64_w, i32_w]
        rfl
      refine done_ (done_of HT_.out (by kernel_rfl)) ?_
      try go_wp2
      go_ret
      exact ⟨by first | rfl | (simp [errW_none, errW_some] <;> rfl) | (simp [*, errW_none, errW_some] <;> rfl), by repeat (first | (with_reducible first | exact HB.out | apply below_alloc | apply pw_below_drewN | apply below_drew1) | exact HB.out)⟩
    · rw [if_neg c7] at H
      exact absurd H (by simp)

end Go.Proofs.Ytmifoihfpjomaaa.F

-- F57
namespace Go.Proofs.Ytmifoihfpjomaaa.F
open Go.RowKit Go.Proofs.YtmifoihfpjomaaaW.PrintWords Go.Proofs.YtmifoihfpjomaaaW.PrintLast Go.Proofs.YtmifoihfpjomaaaW.PrintMore
attribute [local go_sem] max2_int min2_int max_two min_two max_three min_three max_four min_four   -- for this text's walks alone
set_option linter.unusedVariables false
set_option linter.unusedSimpArgs false

/-! ### strongroomref01_Get: function 57 -/
mutual
def strongroomref01_Get.j0 : Nat → ByteArray → Int → Bool → Option (Int × Int × Int)
  | 0, _, _, _ => none
  | k + 1, x0, x1, x18 => if x18 = true then (some (0, 0, 9)) else (strongroomref01_Get.l0 k x0 x1 0 1 0)
def strongroomref01_Get.l0 : Nat → ByteArray → Int → Int → Int → Int → Option (Int × Int × Int)
  | 0, _, _, _, _, _ => none
  | k + 1, x0, x1, x7, x8, x9 => if x9 < 10 then (if (wrap64 ((x0.size : Int) - x1)) = x9 then (some (0, 0, 3)) else (if 0 ≤ (wrap64 (x1 + x9)) then (if (wrap64 (x1 + x9)) < (x0.size : Int) then (if x9 = 9 then (strongroomref01_Get.j2 k x0 x1 x7 x8 x9 (IntKind.u64.wrap (bt x0 (wrap64 (x1 + x9)))) ((IntKind.u64.wrap (bt x0 (wrap64 (x1 + x9)))) != 1)) else (strongroomref01_Get.j2 k x0 x1 x7 x8 x9 (IntKind.u64.wrap (bt x0 (wrap64 (x1 + x9)))) false)) else (none)) else (none))) else (some (0, 0, 4))
def strongroomref01_Get.j2 : Nat → ByteArray → Int → Int → Int → Int → Int → Bool → Option (Int × Int × Int)
  | 0, _, _, _, _, _, _, _ => none
  | k + 1, x0, x1, x7, x8, x9, x10, x40 => if x40 = true then (some (0, 0, 4)) else (if x10 < 128 then (if x10 = 0 then (if x9 > 0 then (some (0, 0, 4)) else (some (IntKind.u64.wrap (x7 + (IntKind.u64.wrap ((Int.tmod x10 128) * x8))), wrap64 ((wrap64 (x1 + x9)) + 1), 0))) else (some (IntKind.u64.wrap (x7 + (IntKind.u64.wrap ((Int.tmod x10 128) * x8))), wrap64 ((wrap64 (x1 + x9)) + 1), 0))) else (strongroomref01_Get.l0 k x0 x1 (IntKind.u64.wrap (x7 + (IntKind.u64.wrap ((Int.tmod x10 128) * x8)))) (IntKind.u64.wrap (x8 * 128)) (wrap64 (x9 + 1))))
end
def strongroomref01_Get.f (k : Nat) (a0 : ByteArray) (a1 : Int) : Option (Int × Int × Int) := if a1 < 0 then (strongroomref01_Get.j0 k a0 a1 true) else (strongroomref01_Get.j0 k a0 a1 (decide (a1 > (a0.size : Int))))
set_option maxHeartbeats 8000000 in
set_option maxRecDepth 100000 in
theorem strongroomref01_Get.calls (k : Nat) (a0 : ByteArray) (a1 : Int) (r1 : Int) (r2 : Int) (r3 : Int) (w : World) (h : strongroomref01_Get.f k a0 a1 = some (r1, r2, r3)) :
    Calls Try.prog 57 #[.string a0, .int .i64 a1] w fun e w' => e = .returned (.tuple #[.int .u64 r1, .int .i64 r2, .int .i64 r3]) ∧ Drawn0 w w' := by
  have H : (if a1 < 0 then (strongroomref01_Get.j0 k a0 a1 true) else (strongroomref01_Get.j0 k a0 a1 (decide (a1 > (a0.size : Int))))) = some (r1, r2, r3) := h
  clear h
  have HC3 := Aside0.mk H
  clear H
  go_enter Try.func57, Try.ntmps57
  go_upto_region 1 with (fail)
  go_cut [18] (fun v18 wc => ∃ (kq : Nat) (x18_2 : Bool), v18 = .bool x18_2 ∧ Aside0 (strongroomref01_Get.j0 kq a0 a1 x18_2 = some (r1, r2, r3)) ∧ Aside0 (kq ≤ k) ∧ Drawn0 w wc)
  case first =>
    have H := HC3.out
    clear HC3
    by_cases c4 : a1 < 0
    · rw [if_pos c4] at H
      have c4b0 : decide (a1 < 0) = true := decide_eq_true c4
      clear c4
      (first | rw [c4b0] | (simp only [i64_w, i32_w]; rw [c4b0]) | skip)
      have H' := Aside0.mk H
      clear H
      go_wp2
      go_meet
      case rel => exact ⟨_, (true), (by first | rfl | (simp; done) | (simp [*]; done)), H', ⟨by first | omega | exact Nat.le_refl _⟩, by repeat (first | exact Drawn0.refl _ | apply Drawn0.step)⟩
    · rw [if_neg c4] at H
      have c4b0 : decide (a1 < 0) = false := decide_eq_false c4
      clear c4
      (first | rw [c4b0] | (simp only [i64_w, i32_w]; rw [c4b0]) | skip)
      have H' := Aside0.mk H
      clear H
      go_wp2
      go_meet
      case rel => exact ⟨_, (decide (a1 > (a0.size : Int))), (by first | rfl | (simp; done) | (simp [*]; done)), H', ⟨by first | omega | exact Nat.le_refl _⟩, by repeat (first | exact Drawn0.refl _ | apply Drawn0.step)⟩
  case rest =>
    clear HC3
    try clear p2
    try clear c4
    try clear c4b0
    obtain ⟨kq, x18_2, rfl, HA, HJ2, ⟨mc2, rfl⟩⟩ := hcut
    cases kq with
    | zero => exact absurd HA.out (by simp [strongroomref01_Get.j0])
    | succ kj2 =>
      have H := HA.out
      clear HA
      simp only [strongroomref01_Get.j0] at H
      by_cases c5 : x18_2 = true
      · subst c5
        have H1 : (some (0, 0, 9)) = some (r1, r2, r3) := by rw [if_pos rfl] at H; exact H
        clear H
        have H := H1
        clear H1
        simp only [Option.some.injEq, Prod.mk.injEq] at H
        obtain ⟨rfl, rfl, rfl⟩ := H
        go_wp2
        go_ret3
        exact ⟨by first | rfl | (simp; done) | (simp [*]; done), by repeat (first | exact Drawn0.refl _ | apply Drawn0.step)⟩
      · replace c5 := Bool.eq_false_iff.mpr c5
        subst c5
        have H1 : (strongroomref01_Get.l0 kj2 a0 a1 0 1 0) = some (r1, r2, r3) := by rw [if_neg (show ¬ (false = true) by decide)] at H; exact H
        clear H
        have H := H1
        clear H1
        have H' := Aside0.mk H
        clear H
        go_wp2
        go_loopg [7, 8, 9] kj2 (fun kq v7 v8 v9 w' => ∃ (x7_2 : Int) (x8_2 : Int) (x9_2 : Int), v7 = .int .u64 x7_2 ∧ v8 = .int .u64 x8_2 ∧ v9 = .int .i64 x9_2 ∧ Aside0 (strongroomref01_Get.l0 kq a0 a1 x7_2 x8_2 x9_2 = some (r1, r2, r3)) ∧ Aside0 (kq ≤ kj2) ∧ Drawn0 w w')
        case atStart => exact ⟨(0), (1), (0), (by first | rfl | (simp; done) | (simp [*]; done)), (by first | rfl | (simp; done) | (simp [*]; done)), (by first | rfl | (simp; done) | (simp [*]; done)), H', ⟨Nat.le_refl _⟩, by repeat (first | exact Drawn0.refl _ | apply Drawn0.step)⟩
        case round =>
          clear H'
          try clear c2
          try clear p2
          try clear c4
          try clear c4b0
          try clear c5
          try clear p2
          obtain ⟨x7_2, x8_2, x9_2, rfl, rfl, rfl, HA, HK2, ⟨m2, rfl⟩⟩ := hrel
          cases gk with
          | zero => exact absurd HA.out (by simp [strongroomref01_Get.l0])
          | succ k2 =>
            have H := HA.out
            clear HA
            simp only [strongroomref01_Get.l0] at H
            by_cases c6 : x9_2 < 10
            · rw [if_pos c6] at H
              have c6b0 : decide (x9_2 < 10) = true := decide_eq_true c6
              clear c6
              by_cases c7 : (wrap64 ((a0.size : Int) - a1)) = x9_2
              · rw [if_pos c7] at H
                have c7b0 : ((wrap64 ((a0.size : Int) - a1)) == x9_2) = true := beq_iff_eq.mpr c7
                have c7b1 : ((wrap64 ((a0.size : Int) - a1)) != x9_2) = false := bne_eq_false_iff_eq.mpr c7
                clear c7
                simp only [Option.some.injEq, Prod.mk.injEq] at H
                obtain ⟨rfl, rfl, rfl⟩ := H
                go_wp2
                go_ret3
                exact ⟨by first | rfl | (simp; done) | (simp [*]; done), by repeat (first | exact Drawn0.refl _ | apply Drawn0.step)⟩
              · rw [if_neg c7] at H
                have c7b0 : ((wrap64 ((a0.size : Int) - a1)) == x9_2) = false := beq_eq_false_iff_ne.mpr c7
                have c7b1 : ((wrap64 ((a0.size : Int) - a1)) != x9_2) = true := bne_iff_ne.mpr c7
                obtain ⟨ji8, hji8⟩ : ∃ j_ : Int, (wrap64 (a1 + x9_2)) = j_ := ⟨_, rfl⟩
                replace H : (if 0 ≤ (ji8) then (if (ji8) < (a0.size : Int) then (if x9_2 = 9 then (strongroomref01_Get.j2 k2 a0 a1 x7_2 x8_2 x9_2 (IntKind.u64.wrap (bt a0 (ji8))) ((IntKind.u64.wrap (bt a0 (ji8))) != 1)) else (strongroomref01_Get.j2 k2 a0 a1 x7_2 x8_2 x9_2 (IntKind.u64.wrap (bt a0 (ji8))) false)) else (none)) else (none)) = some (r1, r2, r3) := by first | (rw [hji8] at H; exact H) | (simp only [hji8] at H ⊢; exact H)
                have hji8w : (IntKind.i64.wrap (a1 + x9_2)) = ji8 := (i64_w _).trans hji8
                by_cases c9 : 0 ≤ (ji8)
                · rw [if_pos c9] at H
                  have c9b0 : decide (0 ≤ (ji8)) = true := decide_eq_true c9
                  clear c9
                  by_cases c10 : (ji8) < (a0.size : Int)
                  · rw [if_pos c10] at H
                    have c10b0 : decide ((ji8) < (a0.size : Int)) = true := decide_eq_true c10
                    clear c10
                    have HC12 := Aside0.mk H
                    clear H
                    have p11 : 0 ≤ ((ji8) : Int) := of_decide_eq_true (by first | (with_reducible assumption) | assumption)
                    have q11 : (ji8) < (a0.size : Int) := of_decide_eq_true (by first | (with_reducible assumption) | assumption)
                    have hx11 := bt_at a0 (ji8)
                    replace p11 := eq_true p11
                    replace q11 := eq_true q11
                    go_upto_region 10 with (fail)
                    go_cut [40] (fun v40 wc => ∃ (kq : Nat) (x40_11 : Bool), v40 = .bool x40_11 ∧ Aside0 (strongroomref01_Get.j2 kq a0 a1 x7_2 x8_2 x9_2 (IntKind.u64.wrap (bt a0 (ji8))) x40_11 = some (r1, r2, r3)) ∧ Aside0 (kq ≤ k2) ∧ Drawn0 w wc)
                    case first =>
                      have H := HC12.out
                      clear HC12
                      by_cases c13 : x9_2 = 9
                      · rw [if_pos c13] at H
                        have c13b0 : (x9_2 == 9) = true := beq_iff_eq.mpr c13
                        have c13b1 : (x9_2 != 9) = false := bne_eq_false_iff_eq.mpr c13
                        clear c13
                        (first | rw [c13b0] | (simp only [i64_w, i32_w]; rw [c13b0]) | skip)
                        have H' := Aside0.mk H
                        clear H
                        go_wp2
                        go_meet
                        case rel => exact ⟨_, (((IntKind.u64.wrap (bt a0 (ji8))) != 1)), (by first | rfl | (simp; done) | (simp only [← hji8] <;> (first | rfl | simp)) | (simp [*]; done)), H', ⟨by have := HJ2.out; have := HK2.out; first | omega | exact Nat.le_refl _⟩, by repeat (first | exact Drawn0.refl _ | apply Drawn0.step)⟩
                      · rw [if_neg c13] at H
                        have c13b0 : (x9_2 == 9) = false := beq_eq_false_iff_ne.mpr c13
                        have c13b1 : (x9_2 != 9) = true := bne_iff_ne.mpr c13
                        (first | rw [c13b0] | (simp only [i64_w, i32_w]; rw [c13b0]) | skip)
                        have H' := Aside0.mk H
                        clear H
                        go_wp2
                        go_meet
                        case rel => exact ⟨_, (false), (by first | rfl | (simp; done) | (simp [*]; done)), H', ⟨by have := HJ2.out; have := HK2.out; first | omega | exact Nat.le_refl _⟩, by repeat (first | exact Drawn0.refl _ | apply Drawn0.step)⟩
                    case rest =>
                      clear HC12
                      try clear c1
                      try clear p1
                      try clear q1
                      try clear hx1
                      try clear c2
                      try clear p2
                      try clear c4
                      try clear c4b0
                      try clear c5
                      try clear c6
                      try clear c6b0
                      try clear p6
                      try clear c7
                      try clear c7b0
                      try clear c7b1
                      try clear c9
                      try clear c9b0
                      try clear c10
                      try clear c10b0
                      try clear p11
                      try clear q11
                      try clear hx11
                      try clear c13
                      try clear c13b0
                      try clear c13b1
                      try clear p11
                      try clear p2
                      try clear q11
                      obtain ⟨kq, x40_11, rfl, HA, HJ11, ⟨mc11, rfl⟩⟩ := hcut
                      cases kq with
                      | zero => exact absurd HA.out (by simp [strongroomref01_Get.j2])
                      | succ kj11 =>
                        have H := HA.out
                        clear HA
                        simp only [strongroomref01_Get.j2] at H
                        by_cases c14 : x40_11 = true
                        · subst c14
                          have H1 : (some (0, 0, 4)) = some (r1, r2, r3) := by rw [if_pos rfl] at H; exact H
                          clear H
                          have H := H1
                          clear H1
                          simp only [Option.some.injEq, Prod.mk.injEq] at H
                          obtain ⟨rfl, rfl, rfl⟩ := H
                          go_wp2
                          go_ret3
                          exact ⟨by first | rfl | (simp; done) | (simp only [← hji8] <;> (first | rfl | simp)) | (simp [*]; done), by repeat (first | exact Drawn0.refl _ | apply Drawn0.step)⟩
                        · replace c14 := Bool.eq_false_iff.mpr c14
                          subst c14
                          have H1 : (if (IntKind.u64.wrap (bt a0 (ji8))) < 128 then (if (IntKind.u64.wrap (bt a0 (ji8))) = 0 then (if x9_2 > 0 then (some (0, 0, 4)) else (some (IntKind.u64.wrap (x7_2 + (IntKind.u64.wrap ((Int.tmod (IntKind.u64.wrap (bt a0 (ji8))) 128) * x8_2))), wrap64 ((wrap64 (a1 + x9_2)) + 1), 0))) else (some (IntKind.u64.wrap (x7_2 + (IntKind.u64.wrap ((Int.tmod (IntKind.u64.wrap (bt a0 (ji8))) 128) * x8_2))), wrap64 ((wrap64 (a1 + x9_2)) + 1), 0))) else (strongroomref01_Get.l0 kj11 a0 a1 (IntKind.u64.wrap (x7_2 + (IntKind.u64.wrap ((Int.tmod (IntKind.u64.wrap (bt a0 (ji8))) 128) * x8_2)))) (IntKind.u64.wrap (x8_2 * 128)) (wrap64 (x9_2 + 1)))) = some (r1, r2, r3) := by rw [if_neg (show ¬ (false = true) by decide)] at H; exact H
                          clear H
                          have H := H1
                          clear H1
                          by_cases c15 : (IntKind.u64.wrap (bt a0 (ji8))) < 128
                          · rw [if_pos c15] at H
                            have c15b0 : decide ((IntKind.u64.wrap (bt a0 (ji8))) < 128) = true := decide_eq_true c15
                            clear c15
                            by_cases c16 : (IntKind.u64.wrap (bt a0 (ji8))) = 0
                            · rw [if_pos c16] at H
                              have c16b0 : ((IntKind.u64.wrap (bt a0 (ji8))) == 0) = true := beq_iff_eq.mpr c16
                              have c16b1 : ((IntKind.u64.wrap (bt a0 (ji8))) != 0) = false := bne_eq_false_iff_eq.mpr c16
                              clear c16
                              by_cases c17 : x9_2 > 0
                              · rw [if_pos c17] at H
                                have c17b0 : decide (0 < x9_2) = true := decide_eq_true c17
                                clear c17
                                simp only [Option.some.injEq, Prod.mk.injEq] at H
                                obtain ⟨rfl, rfl, rfl⟩ := H
                                go_wp2
                                go_ret3
                                exact ⟨by first | rfl | (simp; done) | (simp only [← hji8] <;> (first | rfl | simp)) | (simp [*]; done), by repeat (first | exact Drawn0.refl _ | apply Drawn0.step)⟩
                              · rw [if_neg c17] at H
                                have c17b0 : decide (0 < x9_2) = false := decide_eq_false c17
                                clear c17
                                simp only [Option.some.injEq, Prod.mk.injEq] at H
                                obtain ⟨rfl, rfl, rfl⟩ := H
                                go_wp2
                                go_ret3
                                exact ⟨by first | rfl | (simp; done) | (simp only [← hji8] <;> (first | rfl | simp)) | (simp [*]; done), by repeat (first | exact Drawn0.refl _ | apply Drawn0.step)⟩
                            · rw [if_neg c16] at H
                              have c16b0 : ((IntKind.u64.wrap (bt a0 (ji8))) == 0) = false := beq_eq_false_iff_ne.mpr c16
                              have c16b1 : ((IntKind.u64.wrap (bt a0 (ji8))) != 0) = true := bne_iff_ne.mpr c16
                              simp only [Option.some.injEq, Prod.mk.injEq] at H
                              obtain ⟨rfl, rfl, rfl⟩ := H
                              go_wp2
                              go_ret3
                              exact ⟨by first | rfl | (simp; done) | (simp only [← hji8] <;> (first | rfl | simp)) | (simp [*]; done), by repeat (first | exact Drawn0.refl _ | apply Drawn0.step)⟩
                          · rw [if_neg c15] at H
                            have c15b0 : decide ((IntKind.u64.wrap (bt a0 (ji8))) < 128) = false := decide_eq_false c15
                            clear c15
                            have H' := Aside0.mk H
                            clear H
                            go_wp2
                            go_roundg kj11
                            case measure => have := HJ2.out; have := HK2.out; have := HJ11.out; omega
                            case rel => exact ⟨(IntKind.u64.wrap (x7_2 + (IntKind.u64.wrap ((Int.tmod (IntKind.u64.wrap (bt a0 (ji8))) 128) * x8_2)))), (IntKind.u64.wrap (x8_2 * 128)), (wrap64 (x9_2 + 1)), (by first | rfl | (simp; done) | (simp only [← hji8] <;> (first | rfl | simp)) | (simp [*]; done)), (by first | rfl | (simp; done) | (simp [*]; done)), (by first | rfl | (simp; done) | (simp [*]; done)), H', ⟨by have := HJ2.out; have := HK2.out; have := HJ11.out; omega⟩, by repeat (first | exact Drawn0.refl _ | apply Drawn0.step)⟩
                  · rw [if_neg c10] at H
                    exact absurd H (by simp)
                · rw [if_neg c9] at H
                  exact absurd H (by simp)
            · rw [if_neg c6] at H
              have c6b0 : decide (x9_2 < 10) = false := decide_eq_false c6
              clear c6
              simp only [Option.some.injEq, Prod.mk.injEq] at H
              obtain ⟨rfl, rfl, rfl⟩ := H
              go_wp2
              go_ret3
              exact ⟨by first | rfl | (simp; done) | (simp [*]; done), by repeat (first | exact Drawn0.refl _ | apply Drawn0.step)⟩

end Go.Proofs.Ytmifoihfpjomaaa.F

-- NumMath
namespace Go.Proofs.YtmifoihfpjomaaaM
open Go Go.RowKit
set_option linter.unusedVariables false
/-- a number's bytes -/
def putL (n : Nat) : List Int := if n < 128 then [(n : Int)] else ((n % 128 + 128 : Nat) : Int) :: putL (n / 128)
termination_by n
decreasing_by omega
theorem putL_lt {n : Nat} (h : n < 128) : putL n = [(n : Int)] := by rw [putL, if_pos h]
theorem putL_ge {n : Nat} (h : ¬ n < 128) : putL n = ((n % 128 + 128 : Nat) : Int) :: putL (n / 128) := by rw [putL, if_neg h]
theorem putL_bytes (n : Nat) : ∀ x ∈ putL n, 0 ≤ x ∧ x < 256 := by
  induction n using Nat.strongRecOn with
  | _ n ih =>
    intro x hx
    by_cases h : n < 128
    · rw [putL_lt h] at hx; simp at hx; omega
    · rw [putL_ge h] at hx
      rcases List.mem_cons.1 hx with rfl | hx
      · omega
      · exact ih (n / 128) (by omega) x hx
theorem putL_pos (n : Nat) : 1 ≤ (putL n).length := by
  by_cases h : n < 128
  · rw [putL_lt h]; simp
  · rw [putL_ge h]; simp
theorem putL_len : ∀ (k n : Nat), n < 128 ^ (k + 1) → (putL n).length ≤ k + 1
  | 0, n, h => by rw [putL_lt (by simpa using h)]; simp
  | k + 1, n, h => by
    by_cases h0 : n < 128
    · rw [putL_lt h0]; simp
    · rw [putL_ge h0]
      have := putL_len k (n / 128) (by rw [Nat.div_lt_iff_lt_mul (by decide)]; rw [← Nat.pow_succ]; exact h)
      simp; omega
theorem putL_ten {n : Nat} (h : n < 18446744073709551616) : (putL n).length ≤ 10 := putL_len 9 n (by omega)
theorem or128 (x : Int) : Go.bits .or .u8 (x % 256) 128 = x % 128 + 128 := by
  have key : ∀ y : Fin 256, Go.bits .or .u8 ((y.val : Nat) : Int) 128 = ((y.val : Nat) : Int) % 128 + 128 := by decide +kernel
  have := key ⟨(x % 256).toNat, by omega⟩
  simp only at this
  rw [show (((x % 256).toNat : Nat) : Int) = x % 256 from by omega] at this
  rw [this]; omega
/-- what is read: the number, how many bytes, the error's number -/
def getS : Nat → List Int → Int → Int → Int × Int × Int
  | 0, _, _, _ => (0, 0, 4)
  | _ + 1, [], _, _ => (0, 0, 3)
  | f + 1, x :: r, acc, u => if x < 128 then (if (x = 0 ∧ f < 9) ∨ (f = 0 ∧ 1 < x) then (0, 0, 4) else (acc + x * u, 10 - (f : Int), 0)) else getS f r (acc + (x - 128) * u) (u * 128)
def getL (l : List Int) (at_ : Int) : Int × Int × Int :=
  if at_ < 0 ∨ (l.length : Int) < at_ then (0, 0, 9) else
    let r := getS 10 (l.drop at_.toNat) 0 1
    if r.2.2 = 0 then (r.1, at_ + r.2.1, 0) else (0, 0, r.2.2)
/-- what was written is read again -/
theorem getS_put : ∀ (f n : Nat) (b : List Int) (acc u : Int), n < 2 * 128 ^ f → f ≤ 9 → (n ≠ 0 ∨ f = 9) → getS (f + 1) (putL n ++ b) acc u = (acc + (n : Int) * u, 10 - (f : Int) + ((putL n).length : Int) - 1, 0)
  | 0, n, b, acc, u, hn, _, h2 => by
    have hn : n = 1 := by simp at hn; omega
    subst hn
    rw [putL_lt (by decide)]
    simp [getS]
  | f + 1, n, b, acc, u, hn, hf, h2 => by
    by_cases h0 : n < 128
    · rw [putL_lt h0]
      simp only [List.cons_append, List.nil_append, getS]
      rw [if_pos (by omega), if_neg (by omega)]
      simp
    · rw [putL_ge h0]
      simp only [List.cons_append, getS]
      rw [if_neg (by omega)]
      rw [getS_put f (n / 128) b _ _ (by rw [Nat.div_lt_iff_lt_mul (by decide)]; rw [Nat.mul_assoc, ← Nat.pow_succ]; exact hn) (by omega) (by left; omega)]
      have e : (n : Int) = (n % 128 : Nat) + 128 * (n / 128 : Nat) := by omega
      refine Prod.ext ?_ (Prod.ext ?_ rfl)
      · simp only
        rw [show (((n % 128 + 128 : Nat) : Int) - 128) = ((n % 128 : Nat) : Int) from by omega]
        conv => rhs; rw [e]
        rw [Int.add_mul, Int.add_assoc, Int.mul_comm u 128, ← Int.mul_assoc, Int.mul_comm 128]
      · simp only [List.length_cons]; omega
/-- what is read is just what is written of it -/
theorem getS_ok : ∀ (f : Nat) (l : List Int) (acc u : Int), f ≤ 9 → (∀ x ∈ l, 0 ≤ x ∧ x < 256) → (getS (f + 1) l acc u).2.2 = 0 →
    ∃ (n : Nat) (rest : List Int), n < 2 * 128 ^ f ∧ (n ≠ 0 ∨ f = 9) ∧ l = putL n ++ rest ∧ getS (f + 1) l acc u = (acc + (n : Int) * u, 10 - (f : Int) + ((putL n).length : Int) - 1, 0)
  | f, [], acc, u, _, _, h => by simp [getS] at h
  | f, x :: l, acc, u, hf, hb, h => by
    have hx := hb x (by simp)
    simp only [getS] at h ⊢
    by_cases h1 : x < 128
    · rw [if_pos h1] at h ⊢
      by_cases h2 : (x = 0 ∧ f < 9) ∨ (f = 0 ∧ 1 < x)
      · rw [if_pos h2] at h; simp at h
      · rw [if_neg h2]
        refine ⟨x.toNat, l, ?_, by omega, ?_, ?_⟩
        · rcases Nat.eq_zero_or_pos f with rfl | h3
          · simp; omega
          · have : 128 ^ 1 ≤ 128 ^ f := Nat.pow_le_pow_right (by decide) h3
            omega
        · rw [putL_lt (by omega)]; simp; omega
        · rw [putL_lt (by omega)]
          rw [show ((x.toNat : Nat) : Int) = x from by omega]
          simp
    · rw [if_neg h1] at h ⊢
      cases f with
      | zero => simp [getS] at h
      | succ f =>
        obtain ⟨n, rest, hn, h0, hl, hr⟩ := getS_ok f l _ _ (by omega) (fun y hy => hb y (by simp [hy])) h
        have hn0 : n ≠ 0 := h0.resolve_right (by omega)
        refine ⟨(x - 128).toNat + 128 * n, rest, ?_, by left; omega, ?_, ?_⟩
        · rw [Nat.pow_succ]; omega
        · rw [putL_ge (by omega), hl]
          rw [show ((x - 128).toNat + 128 * n) % 128 = (x - 128).toNat from by omega, show ((x - 128).toNat + 128 * n) / 128 = n from by omega]
          simp; omega
        · rw [hr, putL_ge (n := (x - 128).toNat + 128 * n) (by omega), show ((x - 128).toNat + 128 * n) / 128 = n from by omega]
          refine Prod.ext ?_ (Prod.ext ?_ rfl)
          · simp only
            rw [show ((((x - 128).toNat + 128 * n : Nat)) : Int) = (x - 128) + 128 * n from by omega]
            rw [Int.add_mul, Int.add_assoc, Int.mul_comm u 128, ← Int.mul_assoc, Int.mul_comm 128]
          · simp only [List.length_cons]; omega
theorem getL_ok {l : List Int} {a : Int} (hb : ∀ x ∈ l, 0 ≤ x ∧ x < 256) (h : (getL l a).2.2 = 0) :
    ∃ m n : Nat, a = m ∧ n < 18446744073709551616 ∧ getL l a = ((n : Int), ((m + (putL n).length : Nat) : Int), 0) ∧ m + (putL n).length ≤ l.length ∧ (l.take (m + (putL n).length)).drop m = putL n := by
  unfold getL at h ⊢
  by_cases h0 : a < 0 ∨ (l.length : Int) < a
  · rw [if_pos h0] at h; simp at h
  · rw [if_neg h0] at h ⊢
    obtain ⟨m, rfl⟩ := Int.eq_ofNat_of_zero_le (show 0 ≤ a by omega)
    rw [show ((m : Int)).toNat = m from by omega] at h ⊢
    simp only at h ⊢
    by_cases h1 : (getS 10 (l.drop m) 0 1).2.2 = 0
    · rw [if_pos h1] at h ⊢
      obtain ⟨n, rest, hn, _, hl, hr⟩ := getS_ok 9 (l.drop m) 0 1 (by omega) (fun x hx => hb x (List.mem_of_mem_drop hx)) h1
      refine ⟨m, n, rfl, by have : 2 * 128 ^ 9 = 18446744073709551616 := by decide
                            omega, ?_, ?_, ?_⟩
      · rw [hr]; simp; omega
      · have := congrArg List.length hl
        simp at this; omega
      · rw [List.drop_take, hl, Nat.add_sub_cancel_left]; simp
    · rw [if_neg h1] at h; exact absurd h h1
theorem getL_err {l : List Int} {a : Int} (h : (getL l a).2.2 ≠ 0) : (getL l a).1 = 0 ∧ (getL l a).2.1 = 0 := by
  unfold getL at h ⊢
  by_cases h0 : a < 0 ∨ (l.length : Int) < a
  · rw [if_pos h0]; exact ⟨rfl, rfl⟩
  · rw [if_neg h0] at h ⊢
    simp only at h ⊢
    split at h
    · exact absurd rfl h
    · rename_i h1; rw [if_neg h1]; exact ⟨rfl, rfl⟩
theorem two9 {n : Nat} (h : n < 18446744073709551616) : n < 2 * 128 ^ 9 := by
  have : 2 * 128 ^ 9 = 18446744073709551616 := by decide
  omega
theorem getL_put (a b : List Int) (n : Nat) (h : n < 18446744073709551616) : getL (a ++ putL n ++ b) a.length = ((n : Int), ((a.length + (putL n).length : Nat) : Int), 0) := by
  unfold getL
  rw [if_neg (by simp; omega)]
  simp only [Int.toNat_natCast]
  rw [List.append_assoc, List.drop_left, getS_put 9 n b 0 1 (two9 h) (by omega) (.inr rfl)]
  simp; omega
end Go.Proofs.YtmifoihfpjomaaaM

-- NumC
namespace Go.Proofs.Ytmifoihfpjomaaa.F
open Go Go.RowKit Go.Proofs.YtmifoihfpjomaaaW.PrintWords Go.Proofs.YtmifoihfpjomaaaW.PrintLast Go.Proofs.YtmifoihfpjomaaaW.PrintMore Go.Proofs.YtmifoihfpjomaaaM Go.Proofs.YtmifoihfpjomaaaR
set_option linter.unusedSimpArgs false
set_option linter.unusedVariables false
theorem drawn_below {w w' : World} (h : Drawn0 w w') : Below w.heap.size w w' := h.below
theorem obs {α β : Type} (a : α) (f : α → Option β) : (some a).bind f = f a := by cases h : f a <;> simp [h]
theorem w64 {x : Int} (h : -9223372036854775808 ≤ x) (k : x ≤ 9223372036854775807) : wrap64 x = x := by unfold wrap64; omega
theorem bytes_of {l : List Int} (h : ∀ x ∈ l, (Lit.int .u8 x).wf = true) : ∀ x ∈ l, 0 ≤ x ∧ x < 256 := by
  intro x hx
  have := h x hx
  simp [Lit.wf, IntKind.min, IntKind.max, IntKind.bits, IntKind.signed] at this
  omega
theorem str_size (l : List Int) : (strOfNums l).size = l.length := by
  unfold strOfNums; simp [ByteArray.size]
theorem str_append (l m : List Int) : strOfNums l ++ strOfNums m = strOfNums (l ++ m) := by
  unfold strOfNums
  apply ByteArray.ext
  simp
theorem bytesOf_str {l : List Int} (h : ∀ x ∈ l, 0 ≤ x ∧ x < 256) : bytesOf (strOfNums l) = l := by
  unfold bytesOf strOfNums
  simp only [List.map_map]
  refine List.ext_getElem (by simp) fun i h1 h2 => ?_
  have := h (l[i]) (List.getElem_mem _)
  simp [Function.comp]
  omega
/-- a row of bytes that can be read -/
def Row (l : List Int) : World → Value → Prop := fun w v => ∃ A c, v = .slice A l.length c ∧ l.length ≤ c ∧ Kd.C (Kd.int .u8) w A l.length l
theorem Row.stable (l : List Int) : ∀ w w' v, Grew w w' → Row l w v → Row l w' v := fun _ _ _ hg ⟨A, c, h1, h2, h3⟩ => ⟨A, c, h1, h2, Kd.C_below h3 hg⟩
theorem row_of_R {w : World} {base : Nat} {ok : Nat → Prop} {e : Nat} {v : Value} {l : List Int} (h : Kd.R (Kd.int .u8) e w base ok v l) : Row l w v := Kd.R_reads h
theorem lay_l0 : ∀ (k n : Nat) (l : List Int), (putL n).length ≤ k → l.length + (putL n).length < 140737488355328 → num_lay.l0 k l (n : Int) = some (l ++ putL n)
  | 0, n, l, h, _ => by have := putL_pos n; omega
  | k + 1, n, l, h, h1 => by
    simp only [num_lay.l0]
    have := putL_pos n
    by_cases hn : n < 128
    · rw [if_neg (by omega), if_pos (by omega), putL_lt hn, show (n : Int) % 256 = n from by omega]
    · rw [if_pos (by omega), if_pos (by omega), or128]
      rw [putL_ge hn] at h h1 ⊢
      simp only [List.length_cons] at h h1
      rw [show (n : Int) / 128 = ((n / 128 : Nat) : Int) from by omega, show (n : Int) % 128 + 128 = ((n % 128 + 128 : Nat) : Int) from by omega, lay_l0 k (n / 128) _ (by omega) (by simp; omega)]
      simp
theorem lay_f (k n : Nat) (l : List Int) (hk : 10 ≤ k) (h : n < 18446744073709551616) (hl : l.length ≤ 140737488351232) : num_lay.f k l (n : Int) = some (l ++ putL n) := by
  have := putL_ten h
  unfold num_lay.f
  exact lay_l0 k n l (by omega) (by omega)
theorem own_f (l : List Int) (hl : l.length ≤ 140737488351232) : num_own.f l = some l := by
  unfold num_own.f
  rw [obs, if_pos (by simp; omega)]; simp
theorem put_f (k n : Nat) (l : List Int) (hk : 10 ≤ k) (h : n < 18446744073709551616) (hl : l.length ≤ 140737488351232) : num_Put.f k l (n : Int) = some (l ++ putL n) := by
  unfold num_Put.f
  rw [own_f l hl, obs, lay_f k n l hk h hl, obs]
theorem u64_wrap (n : Int) : IntKind.u64.wrap n = n % 18446744073709551616 := by simp [IntKind.wrap, IntKind.bits, IntKind.signed]
theorem rput_f : ∀ (k n : Nat), (putL n).length ≤ k → k ≤ 1000 → n < 18446744073709551616 → strongroomref01_Put.f k (n : Int) = some (strOfNums (putL n))
  | 0, n, h, _, _ => by have := putL_pos n; omega
  | k + 1, n, h, h1, h2 => by
    simp only [strongroomref01_Put.f]
    by_cases hn : n < 128
    · rw [if_pos (by omega), putL_lt hn, show (n : Int) % 256 = n from by omega]
    · rw [if_neg (by omega), obs]
      rw [putL_ge hn] at h ⊢
      simp only [List.length_cons] at h
      rw [Int.tdiv_eq_ediv_of_nonneg (by omega), Int.tmod_eq_emod_of_nonneg (by omega), u64_wrap, u64_wrap, show ((n : Int) / 128) % 18446744073709551616 = ((n / 128 : Nat) : Int) from by omega, rput_f k (n / 128) (by omega) (by omega) (by omega), obs, if_pos (by rw [str_size, str_size]; simp; omega), str_append]
      congr 2
      simp only [List.cons_append, List.nil_append]
      congr 1
      omega
theorem rput_c (n : Nat) (w : World) (h : n < 18446744073709551616) : Calls Try.prog 39 #[.int .u64 n] w (Tells w (Is (.string (strOfNums (putL n))))) :=
  tells_is (strongroomref01_Put.calls 10 n _ w (rput_f 10 n (putL_ten h) (by omega) h))
end Go.Proofs.Ytmifoihfpjomaaa.F

-- ShaP
namespace Go.Proofs.Ytmifoihfpjomaaa.F
open Go Go.RowKit Go.Proofs.YtmifoihfpjomaaaW.PrintWords Go.Proofs.YtmifoihfpjomaaaW.PrintLast Go.Proofs.YtmifoihfpjomaaaW.PrintMore Go.Proofs.YtmifoihfpjomaaaR
set_option linter.unusedSimpArgs false
set_option linter.unusedVariables false
set_option maxRecDepth 100000
theorem above_c (y p : Nat) (hy : y < 18446744073709551616) (w : World) :
    Calls Try.prog 63 #[.int .u64 y, .int .u64 p] w (Tells w (Is (.bool (!okL p false y)))) :=
  tells_is ((sha_above.calls y p _ w (above_f y p hy)).mono fun _ _ ⟨h, k⟩ => ⟨h, drawn_below k⟩)
theorem mul64_c (x y : Nat) (hx : x < 18446744073709551616) (hy : y < 18446744073709551616) (w : World) :
    Calls Try.prog 70 #[.int .u64 x, .int .u64 y] w (Tells w (Is (.tuple #[.int .u64 ((x * y / 18446744073709551616 : Nat) : Int), .int .u64 ((x * y % 18446744073709551616 : Nat) : Int)]))) :=
  tells_is ((bits_Mul64.calls x y ((x * y / 18446744073709551616 : Nat) : Int) ((x * y % 18446744073709551616 : Nat) : Int) w (by rw [mul64_f x y (by omega) (by omega) (by omega) (by omega)]; simp)).mono fun _ _ ⟨h, k⟩ => ⟨h, drawn_below k⟩)
theorem add64_run (x y : Nat) (w : World) :
    (callFunc 71 #[.int .u64 x, .int .u64 y, .int .u64 0]).run Try.prog w =
      .ok (.value (.tuple #[.int .u64 (((x + y) % 18446744073709551616 : Nat) : Int), .int .u64 (((x + y) / 18446744073709551616 : Nat) : Int)])) w := by
  rw [run_callFunc_extern Try.func71 (by kernel_rfl) (by kernel_rfl) (by kernel_rfl) (e := add64Entry) (by kernel_rfl), run_add64 x y 0 (by omega) (by omega) (by omega) (by omega)]
  simp only [Result.andThen]
  congr 5 <;> omega
theorem aboveCube_plain (y p : Nat) (hy : y < 17592186044416) (hp : p < 4294967296) : ∃ hi lo top mid up low s c t : Nat, t < 32 ∧ s < 18446744073709551616 ∧ c < 2 ∧ low < 18446744073709551616 ∧ hi < 16777216 ∧ lo < 18446744073709551616 ∧
    y * y / 18446744073709551616 = hi ∧ y * y % 18446744073709551616 = lo ∧ hi * y / 18446744073709551616 = top ∧ hi * y % 18446744073709551616 = mid ∧ lo * y / 18446744073709551616 = up ∧ lo * y % 18446744073709551616 = low ∧
    (mid + up) % 18446744073709551616 = s ∧ (mid + up) / 18446744073709551616 = c ∧ top + c = t ∧ top < 16 ∧
    (okL p true y = false ↔ (0 < t ∨ (t = 0 ∧ (p * 4294967296 < s ∨ (s = p * 4294967296 ∧ 0 < low))))) := by
  obtain ⟨hi, lo, top, mid, up, low, e1, b1, b2, e2, b3, b6, e3, b4, b5, e4⟩ := cube_words y hy
  refine ⟨hi, lo, top, mid, up, low, _, _, _, ?_, ?_, ?_, b4, b2, b1, by omega, by omega, by omega, by omega, by omega, by omega, rfl, rfl, rfl, b6, ?_⟩
  · omega
  · omega
  · omega
  · simp only [okL]; rw [e4]
    rw [decide_eq_false_iff_not]
    clear e1 e2 e3 e4
    omega
set_option maxHeartbeats 1000000 in
theorem aboveCube_c (y p : Nat) (hy : y < 17592186044416) (hp : p < 4294967296) (w : World) :
    Calls Try.prog 62 #[.int .u64 y, .int .u64 p] w (Tells w (Is (.bool (!okL p true y)))) := by
  obtain ⟨hi, lo, top, mid, up, low, s, c, t, ht, hs, hc, hlow, hhi, hlo, e1, e2, e3, e4, e5, e6, e7, e8, e9, b6, hK⟩ := aboveCube_plain y p hy hp
  have m1 := fun w => mul64_c y y (by omega) (by omega) w
  have m2 := fun w => mul64_c hi y (by omega) (by omega) w
  have m3 := fun w => mul64_c lo y (by omega) (by omega) w
  have ad := fun w => add64_run mid up w
  rw [e1, e2] at m1
  rw [e3, e4] at m2
  rw [e5, e6] at m3
  rw [e7, e8] at ad
  have M1 := Lib.hid m1
  have M2 := Lib.hid m2
  have M3 := Lib.hid m3
  obtain ⟨b, hb⟩ : ∃ b, b = okL p true y := ⟨_, rfl⟩
  rw [← hb] at hK ⊢
  have HK := Lib.hid hK
  have q1 : (p : Int) / 4294967296 = 0 := by omega
  have q2 : IntKind.u64.wrap ((top : Int) + (c : Int)) = (t : Int) := by rw [IntWalk.u64_in _ (by omega)]; omega
  obtain ⟨q, hq⟩ : ∃ q : Nat, q = p * 4294967296 := ⟨_, rfl⟩
  have q3 : IntKind.u64.wrap ((p : Int) * 4294967296) = (q : Int) := by rw [IntWalk.u64_in _ (by omega)]; omega
  have HQ := Lib.hid hq
  clear m1 m2 m3 e1 e2 e3 e4 e5 e6 e7 e8 e9 hK hb hq
  go_enter Try.func62, Try.ntmps62
  go_wp2_with fail
  refine (M1.out _).mono ?_
  rintro e w1 ⟨_, rfl, rfl, hg1⟩
  go_wp2_with fail
  refine (M2.out _).mono ?_
  rintro e w2 ⟨_, rfl, rfl, hg2⟩
  go_wp2_with fail
  refine (M3.out _).mono ?_
  rintro e w3 ⟨_, rfl, rfl, hg3⟩
  go_wp2_with (simp only [ad])
  all_goals go_ret
  all_goals refine ⟨_, rfl, ?_, hg1.trans (hg2.trans hg3)⟩
  all_goals show Value.bool _ = Value.bool _
  all_goals (have h := HK.out; have h2 := HQ.out; clear M1 M2 M3 ad HK HQ q1 q2 q3)
  all_goals congr 1
  all_goals (cases b <;> simp at h ⊢ <;> omega)
theorem pow_small (m : Nat) (hm : m < 49) : (2 : Nat) ^ m < 562949953421312 := by
  have h1 : (2 : Nat) ^ m ≤ 2 ^ 48 := Nat.pow_le_pow_right (by omega) (by omega)
  simp at h1; omega
theorem pow_u64 (m : Nat) (hm : m < 49) : IntKind.u64.wrap ((2 : Int) ^ m) = ((2 ^ m : Nat) : Int) := by
  have h := pow_small m hm
  have e : (2 : Int) ^ m = ((2 ^ m : Nat) : Int) := by push_cast; rfl
  rw [e]
  generalize (2 : Nat) ^ m = k at *
  exact IntWalk.u64_in _ (by omega)
theorem or_step (x m : Nat) (hm : m < 49) (hx : x % 2 ^ (m + 1) = 0) (hb : x + 2 ^ (m + 1) ≤ 2 ^ 49) : Go.bits .or .u64 (x : Int) ((2 ^ m : Nat) : Int) = ((x + 2 ^ m : Nat) : Int) := by
  have h1 : (2 : Nat) ^ m < 2 ^ (m + 1) := Nat.pow_lt_pow_right (by omega) (by omega)
  have h3 : x + 2 ^ (m + 1) ≤ 562949953421312 := hb
  have h := (bits_nat .u64 64 (Nat.le_refl _) (fun n h0 h3 => by rw [IntKind.wrap_u64]; omega) x (2 ^ m) (by show x < 18446744073709551616; omega) (by show 2 ^ m < 18446744073709551616; omega)).2
  rw [h]
  obtain ⟨q, rfl⟩ : ∃ q, x = 2 ^ (m + 1) * q := ⟨x / 2 ^ (m + 1), by have := Nat.div_add_mod x (2 ^ (m + 1)); omega⟩
  rw [Nat.two_pow_add_eq_or_of_lt h1]
theorem step_facts (x m : Nat) (hm : m < 49) (hx : x % 2 ^ (m + 1) = 0) (hb : x + 2 ^ (m + 1) ≤ 2 ^ 49) : x % 2 ^ m = 0 ∧ (x + 2 ^ m) % 2 ^ m = 0 ∧ x + 2 ^ m ≤ 2 ^ 49 ∧ x + 2 ^ m + 2 ^ m ≤ 2 ^ 49 ∧ x + 2 ^ m < 562949953421312 := by
  have h1 : (2 : Nat) ^ (m + 1) = 2 * 2 ^ m := by rw [Nat.pow_succ]; omega
  have h2 : (2 : Nat) ^ 49 = 562949953421312 := rfl
  have h3 : x % 2 ^ m = 0 := by
    rw [h1] at hx
    have := Nat.mod_mul_left_mod x 2 (2 ^ m)
    rw [hx] at this; simpa using this.symm
  have h4 : 0 < 2 ^ m := Nat.pos_of_ne_zero (by simp)
  refine ⟨h3, by rw [Nat.add_mod_right]; exact h3, by omega, by omega, by omega⟩
set_option maxHeartbeats 1000000 in
theorem root_c (p : Nat) (hp : p < 4294967296) (cube : Bool) (w : World) :
    Calls Try.prog 50 #[.int .u32 p, .bool cube] w (Tells w (Is (.int .u32 ((rootL p cube 49 0 % 4294967296 : Nat) : Int)))) := by
  obtain ⟨R, hR⟩ : ∃ R, R = rootL p cube 49 0 := ⟨_, rfl⟩
  rw [← hR]
  have HR := Lib.hid hR
  clear hR
  go_enter Try.func50, Try.ntmps50
  go_wp2_with fail
  go_loopw [5, 8] (fun xv iv wr => ∃ (i n x : Nat), iv = .int .i64 (i : Int) ∧ i + n = 49 ∧ xv = .int .u64 (x : Int) ∧ x % 2 ^ n = 0 ∧ x + 2 ^ n ≤ 2 ^ 49 ∧ rootL p cube n x = R ∧ Grew w wr) (fun _ iv _ => 49 - (intOf iv).toNat)
  case atStart => exact ⟨0, 49, 0, rfl, rfl, rfl, rfl, by simp, HR.out.symm, Grew.refl _⟩
  case round =>
    obtain ⟨i, n, x, rfl, hin, rfl, hx, hb, hr, hg⟩ := hrel
    rcases n with _ | m
    · have d1 : decide ((i : Int) < 49) = false := decide_eq_false (by omega)
      have hxR : x = R := hr
      subst hxR
      have hx4 : IntKind.u32.wrap (x : Int) = ((x % 4294967296 : Nat) : Int) := by rw [IntKind.wrap_u32]; omega
      clear hx hb hr hin
      go_wp2_with fail
      go_ret
      exact ⟨_, rfl, by show Value.int _ _ = Value.int _ _; simp, hg⟩
    · have d1 : decide ((i : Int) < 49) = true := decide_eq_true (by omega)
      obtain ⟨f1, f2, f3, f4, f5⟩ := step_facts x m (by omega) hx hb
      have e1 : IntKind.i64.wrap (48 - (i : Int)) = (m : Int) := by rw [IntWalk.i64_in _ (by omega)]; omega
      have e3 := or_step x m (by omega) hx hb
      obtain ⟨k2, hk2⟩ : ∃ k2 : Nat, k2 = 2 ^ m := ⟨_, rfl⟩
      have e2 := pow_u64 m (by omega)
      rw [← hk2] at e2
      rw [← hk2] at e3
      have hi : i < 49 := by omega
      obtain ⟨y, hy⟩ : ∃ y, y = x + k2 := ⟨_, rfl⟩
      have hr2 : rootL p cube m (if okL p cube y = true then y else x) = R := by rw [hy, hk2]; exact hr
      have hyb : y < 562949953421312 := by rw [hy, hk2]; exact f5
      have F := Lib.hid (And.intro f1 (And.intro f2 (And.intro f3 (And.intro f4 f5))))
      have HY := Lib.hid (show y = x + 2 ^ m from by rw [hy, hk2])
      rw [← hy] at e3
      clear f1 f2 f3 f4 f5 hx hb hr hk2 hy
      cases cube
      · go_wp2_with fail
        refine (above_c y p (by omega) wr).mono ?_
        rintro e w2 ⟨_, rfl, rfl, hg2⟩
        cases hok : okL p false y
        all_goals (rw [hok] at hr2; simp only [Bool.not_true, Bool.not_false])
        all_goals clear hok
        · have hr3 : rootL p false m x = R := hr2
          clear hr2
          go_wp2_with fail
          go_roundw
          case rel => exact ⟨i + 1, m, x, by go_num, by omega, rfl, F.out.1, F.out.2.2.1, hr3, hg.trans hg2⟩
          case measure => simp [intOf]; omega
        · have hr3 : rootL p false m y = R := hr2
          clear hr2
          go_wp2_with fail
          go_roundw
          case rel => exact ⟨i + 1, m, y, by go_num, by omega, rfl, by rw [HY.out]; exact F.out.2.1, by rw [HY.out]; exact F.out.2.2.2.1, hr3, hg.trans hg2⟩
          case measure => simp [intOf]; omega

      · by_cases hcy : y < 17592186044416
        · have d2 : decide ((y : Int) < 17592186044416) = true := decide_eq_true (by omega)
          go_wp2_with fail
          refine (aboveCube_c y p hcy hp wr).mono ?_
          rintro e w2 ⟨_, rfl, rfl, hg2⟩
          cases hok : okL p true y
          all_goals (rw [hok] at hr2; simp only [Bool.not_true, Bool.not_false])
          all_goals clear hok
          · have hr3 : rootL p true m x = R := hr2
            clear hr2
            go_wp2_with fail
            go_roundw
            case rel => exact ⟨i + 1, m, x, by go_num, by omega, rfl, F.out.1, F.out.2.2.1, hr3, hg.trans hg2⟩
            case measure => simp [intOf]; omega
          · have hr3 : rootL p true m y = R := hr2
            clear hr2
            go_wp2_with fail
            go_roundw
            case rel => exact ⟨i + 1, m, y, by go_num, by omega, rfl, by rw [HY.out]; exact F.out.2.1, by rw [HY.out]; exact F.out.2.2.2.1, hr3, hg.trans hg2⟩
            case measure => simp [intOf]; omega

        · have d2 : decide ((y : Int) < 17592186044416) = false := decide_eq_false (by omega)
          have hr3 : rootL p true m x = R := by rw [okL_far p y hp (by omega)] at hr2; exact hr2
          clear hr2
          go_wp2_with fail
          go_roundw
          case rel => exact ⟨i + 1, m, x, by go_num, by omega, rfl, F.out.1, F.out.2.2.1, hr3, hg⟩
          case measure => simp [intOf]; omega
end Go.Proofs.Ytmifoihfpjomaaa.F

-- F72
namespace Go.Proofs.Ytmifoihfpjomaaa.F
open Go.RowKit Go.Proofs.YtmifoihfpjomaaaW.PrintWords Go.Proofs.YtmifoihfpjomaaaW.PrintLast Go.Proofs.YtmifoihfpjomaaaW.PrintMore
attribute [local go_sem] max2_int min2_int max_two min_two max_three min_three max_four min_four   -- for this text's walks alone
set_option linter.unusedVariables false
set_option linter.unusedSimpArgs false

/-! ### bits_RotateLeft32: function 72 -/
def bits_RotateLeft32.f (a0 : Int) (a1 : Int) : Option (Int) := if 0 ≤ (Go.bits .and .u64 (IntKind.u64.wrap (a1)) 31) then (if 0 ≤ (IntKind.u64.wrap (32 - (Go.bits .and .u64 (IntKind.u64.wrap (a1)) 31))) then (some (Go.bits .or .u32 (shl .u32 a0 (Go.bits .and .u64 (IntKind.u64.wrap (a1)) 31)) (shr .u32 a0 (IntKind.u64.wrap (32 - (Go.bits .and .u64 (IntKind.u64.wrap (a1)) 31)))))) else (none)) else (none)
set_option maxHeartbeats 8000000 in
set_option maxRecDepth 100000 in
theorem bits_RotateLeft32.calls (a0 : Int) (a1 : Int) (r : Int) (w : World) (h : bits_RotateLeft32.f a0 a1 = some r) :
    Calls Try.prog 72 #[.int .u32 a0, .int .i64 a1] w fun e w' => e = .returned (.int .u32 r) ∧ Drawn0 w w' := by
  have H : (if 0 ≤ (Go.bits .and .u64 (IntKind.u64.wrap (a1)) 31) then (if 0 ≤ (IntKind.u64.wrap (32 - (Go.bits .and .u64 (IntKind.u64.wrap (a1)) 31))) then (some (Go.bits .or .u32 (shl .u32 a0 (Go.bits .and .u64 (IntKind.u64.wrap (a1)) 31)) (shr .u32 a0 (IntKind.u64.wrap (32 - (Go.bits .and .u64 (IntKind.u64.wrap (a1)) 31)))))) else (none)) else (none)) = some r := h
  clear h
  obtain ⟨ji3, hji3⟩ : ∃ j_ : Int, (Go.bits .and .u64 (IntKind.u64.wrap (a1)) 31) = j_ := ⟨_, rfl⟩
  replace H : (if 0 ≤ (ji3) then (if 0 ≤ (IntKind.u64.wrap (32 - (ji3))) then (some (Go.bits .or .u32 (shl .u32 a0 (ji3)) (shr .u32 a0 (IntKind.u64.wrap (32 - (ji3)))))) else (none)) else (none)) = some r := by first | (rw [hji3] at H; exact H) | (simp only [hji3] at H ⊢; exact H)
  by_cases c4 : 0 ≤ (ji3)
  · rw [if_pos c4] at H
    have c4b0 := eq_true c4
    have c4b1 : decide (0 ≤ (ji3)) = true := decide_eq_true c4
    clear c4
    obtain ⟨ji5, hji5⟩ : ∃ j_ : Int, (shl .u32 a0 (ji3)) = j_ := ⟨_, rfl⟩
    replace H : (if 0 ≤ (IntKind.u64.wrap (32 - (ji3))) then (some (Go.bits .or .u32 (ji5) (shr .u32 a0 (IntKind.u64.wrap (32 - (ji3)))))) else (none)) = some r := by first | (rw [hji5] at H; exact H) | (simp only [hji5] at H ⊢; exact H)
    have hji5_ : (IntKind.u32.wrap (a0 * 2 ^ min (ji3).toNat 32)) = ji5 := hji5
    have hji5z : (ji3) ≤ 32 → (IntKind.u32.wrap (a0 * 2 ^ (ji3).toNat)) = ji5 := shl_small hji5
    obtain ⟨ji6, hji6⟩ : ∃ j_ : Int, (IntKind.u64.wrap (32 - (ji3))) = j_ := ⟨_, rfl⟩
    replace H : (if 0 ≤ (ji6) then (some (Go.bits .or .u32 (ji5) (shr .u32 a0 (ji6)))) else (none)) = some r := by first | (rw [hji6] at H; exact H) | (simp only [hji6] at H ⊢; exact H)
    by_cases c7 : 0 ≤ (ji6)
    · rw [if_pos c7] at H
      have c7b0 := eq_true c7
      have c7b1 : decide (0 ≤ (ji6)) = true := decide_eq_true c7
      clear c7
      obtain ⟨ji8, hji8⟩ : ∃ j_ : Int, (shr .u32 a0 (ji6)) = j_ := ⟨_, rfl⟩
      replace H : (some (Go.bits .or .u32 (ji5) (ji8))) = some r := by first | (rw [hji8] at H; exact H) | (simp only [hji8] at H ⊢; exact H)
      have hji8_ : (a0 / 2 ^ min (ji6).toNat 32) = ji8 := hji8
      have hji8z : (ji6) ≤ 32 → (a0 / 2 ^ (ji6).toNat) = ji8 := shr_small hji8
      obtain rfl := Option.some.inj H
      go_enter Try.func72, Try.ntmps72
      go_wp2
      go_ret
      exact ⟨by first | rfl | (simp; done) | (simp only [← hji3, ← hji5, ← hji6, ← hji8] <;> (first | rfl | simp)) | (simp [*]; done), by repeat (first | exact Drawn0.refl _ | apply Drawn0.step)⟩
    · rw [if_neg c7] at H
      exact absurd H (by simp)
  · rw [if_neg c4] at H
    exact absurd H (by simp)

end Go.Proofs.Ytmifoihfpjomaaa.F

-- F64
namespace Go.Proofs.Ytmifoihfpjomaaa.F
open Go.RowKit Go.Proofs.YtmifoihfpjomaaaW.PrintWords Go.Proofs.YtmifoihfpjomaaaW.PrintLast Go.Proofs.YtmifoihfpjomaaaW.PrintMore
attribute [local go_sem] max2_int min2_int max_two min_two max_three min_three max_four min_four   -- for this text's walks alone
set_option linter.unusedVariables false
set_option linter.unusedSimpArgs false

/-! ### sha_turn: function 64 -/
def sha_turn.f (a0 : Int) (a1 : Int) : Option (Int) := (bits_RotateLeft32.f a0 (wrap64 (-a1))).bind fun t120 => (some t120)
set_option maxHeartbeats 8000000 in
set_option maxRecDepth 100000 in
theorem sha_turn.calls (a0 : Int) (a1 : Int) (r : Int) (w : World) (h : sha_turn.f a0 a1 = some r) :
    Calls Try.prog 64 #[.int .u32 a0, .int .i64 a1] w fun e w' => e = .returned (.int .u32 r) ∧ Drawn0 w w' := by
  have H : ((bits_RotateLeft32.f a0 (wrap64 (-a1))).bind fun t120 => (some t120)) = some r := h
  clear h
  replace H := Option.bind_eq_some_iff.mp H
  obtain ⟨t120, A30, H⟩ := H
  replace H : (some t120) = some r := H
  have A3 := Aside0.mk A30
  clear A30
  obtain rfl := Option.some.inj H
  go_enter Try.func64, Try.ntmps64
  go_wp2_with (first | ((with_reducible refine gate_callee (f := 72) rfl ?_); refine goesL_ (some 8) rfl rfl Try.func72 (by kernel_rfl) rfl #[.int .u32 a0, .int .i64 (wrap64 (-a1))] rfl (by (try simp only [List.map_toArray, List.map_cons, List.map_nil]); first | done | rfl | (simp only [List.length_drop, List.length_take]; rfl)) ?_; (with_reducible refine (bits_RotateLeft32.calls a0 (wrap64 (-a1)) t120 _ A3.out).mono ?_); rintro e w' ⟨rfl, ⟨nd, rfl⟩⟩; refine ⟨_, rfl, ?_⟩))
  go_ret
  exact ⟨by first | rfl | (simp; done) | (simp [*]; done), by repeat (first | exact Drawn0.refl _ | apply Drawn0.step)⟩

-- NOT PRINTED: function 52 (sha_mix)

-- NOT PRINTED: function 36 (sha_Hash_Write)

end Go.Proofs.Ytmifoihfpjomaaa.F

-- F76
namespace Go.Proofs.Ytmifoihfpjomaaa.F
open Go.RowKit Go.Proofs.YtmifoihfpjomaaaW.PrintWords Go.Proofs.YtmifoihfpjomaaaW.PrintLast Go.Proofs.YtmifoihfpjomaaaW.PrintMore
attribute [local go_sem] max2_int min2_int max_two min_two max_three min_three max_four min_four   -- for this text's walks alone
set_option linter.unusedVariables false
set_option linter.unusedSimpArgs false

-- NOT PRINTED: function 69 (strongroomref02_Mix)

-- NOT PRINTED: function 60 (strongroomref02_Sum)

-- NOT PRINTED: function 61 (strongroomref03_turned)

-- NOT PRINTED: function 48 (strongroomref03_Seal)

-- NOT PRINTED: function 34 (strongroomref03_Chain)

-- NOT PRINTED: function 21 (strongroomref13_Chain)

-- NOT PRINTED: function 14 (strongroomref13_Of)

end Go.Proofs.Ytmifoihfpjomaaa.F

-- ShaT
namespace Go.Proofs.Ytmifoihfpjomaaa.F
open Go Go.RowKit Go.Proofs.YtmifoihfpjomaaaW.PrintWords Go.Proofs.YtmifoihfpjomaaaW.PrintLast Go.Proofs.YtmifoihfpjomaaaW.PrintMore Go.Proofs.YtmifoihfpjomaaaR
set_option linter.unusedSimpArgs false
set_option linter.unusedVariables false
def addW (a b : Nat) : Nat := (a + b) % 4294967296
def xorW (a b : Nat) : Nat := a ^^^ b
def andW (a b : Nat) : Nat := a &&& b
def orW (a b : Nat) : Nat := a ||| b
def notW (a : Nat) : Nat := 4294967295 - a
def shrW (a n : Nat) : Nat := a >>> n
def shlW (a n : Nat) : Nat := (a <<< n) % 4294967296
def rotW (a n : Nat) : Nat := orW (shrW a n) (shlW a (32 - n))
theorem addW_lt (a b : Nat) : addW a b < 4294967296 := Nat.mod_lt _ (by omega)
theorem shlW_lt (a b : Nat) : shlW a b < 4294967296 := Nat.mod_lt _ (by omega)
theorem xorW_lt {a b : Nat} (ha : a < 4294967296) (hb : b < 4294967296) : xorW a b < 4294967296 := Nat.xor_lt_two_pow (n := 32) ha hb
theorem andW_lt {a : Nat} (b : Nat) (ha : a < 4294967296) : andW a b < 4294967296 := Nat.lt_of_le_of_lt Nat.and_le_left ha
theorem orW_lt {a b : Nat} (ha : a < 4294967296) (hb : b < 4294967296) : orW a b < 4294967296 := Nat.or_lt_two_pow (n := 32) ha hb
theorem notW_lt (a : Nat) : notW a < 4294967296 := by unfold notW; omega
theorem shrW_lt {a : Nat} (n : Nat) (ha : a < 4294967296) : shrW a n < 4294967296 := by
  unfold shrW; rw [Nat.shiftRight_eq_div_pow]; exact Nat.lt_of_le_of_lt (Nat.div_le_self _ _) ha
theorem rotW_lt {a : Nat} (n : Nat) (ha : a < 4294967296) : rotW a n < 4294967296 := orW_lt (shrW_lt n ha) (shlW_lt _ _)
theorem add_w (a b : Nat) : IntKind.u32.wrap ((a : Int) + (b : Int)) = ((addW a b : Nat) : Int) := by rw [IntKind.wrap_u32]; unfold addW; omega
theorem or_w {a b : Nat} (ha : a < 4294967296) (hb : b < 4294967296) : Go.bits .or .u32 (a : Int) (b : Int) = ((orW a b : Nat) : Int) :=
  (bits_nat .u32 32 (Nat.le_refl _) (fun n h0 h3 => by rw [IntKind.wrap_u32]; omega) a b ha hb).2
theorem and_w {a b : Nat} (ha : a < 4294967296) (hb : b < 4294967296) : Go.bits .and .u32 (a : Int) (b : Int) = ((andW a b : Nat) : Int) :=
  (bits_nat .u32 32 (Nat.le_refl _) (fun n h0 h3 => by rw [IntKind.wrap_u32]; omega) a b ha hb).1
theorem xor_w {a b : Nat} (ha : a < 4294967296) (hb : b < 4294967296) : Go.bits .xor .u32 (a : Int) (b : Int) = ((xorW a b : Nat) : Int) := by
  have h := xorW_lt ha hb
  unfold Go.bits
  simp only [show IntKind.u32.bits = 32 from rfl]
  rw [BitVec.toNat_xor, BitVec.toNat_ofInt, BitVec.toNat_ofInt]
  rw [show ((a : Int) % ((2 ^ IntKind.u32.bits : Nat) : Int)).toNat = a from by show ((a : Int) % 4294967296).toNat = a; omega, show ((b : Int) % ((2 ^ IntKind.u32.bits : Nat) : Int)).toNat = b from by show ((b : Int) % 4294967296).toNat = b; omega]
  exact IntWalk.u32_in _ (by unfold xorW at *; omega)
theorem not_w {a : Nat} (ha : a < 4294967296) : Go.bits .xor .u32 IntKind.u32.max (a : Int) = ((notW a : Nat) : Int) := by
  have h := xor_w (a := 2 ^ 32 - 1) (by omega) ha
  have e : (2 ^ 32 - 1) ^^^ a = 2 ^ 32 - 1 - a := by
    have h1 : (BitVec.allOnes 32 ^^^ BitVec.ofNat 32 a).toNat = (2 ^ 32 - 1) ^^^ a := by
      rw [BitVec.toNat_xor, BitVec.toNat_ofNat, Nat.mod_eq_of_lt (by omega), BitVec.toNat_allOnes]
    rw [← h1, BitVec.allOnes_xor, BitVec.toNat_not, BitVec.toNat_ofNat, Nat.mod_eq_of_lt (by omega)]
  have e2 : xorW (2 ^ 32 - 1) a = notW a := by unfold xorW notW; rw [e]
  rw [e2] at h
  rw [← h]
  congr 1
theorem shr_w (a n : Nat) (hn : n ≤ 32) : shr .u32 (a : Int) (n : Int) = ((shrW a n : Nat) : Int) := by
  unfold shr shrW
  rw [Nat.shiftRight_eq_div_pow, show min (n : Int).toNat IntKind.u32.bits = n from by show min n 32 = n; omega]
  push_cast; rfl
theorem shl_w (a n : Nat) (hn : n ≤ 32) : shl .u32 (a : Int) (n : Int) = ((shlW a n : Nat) : Int) := by
  unfold shl shlW
  rw [Nat.shiftLeft_eq, show min (n : Int).toNat IntKind.u32.bits = n from by show min n 32 = n; omega, IntKind.wrap_u32, show (2 : Int) ^ n = ((2 ^ n : Nat) : Int) from by push_cast; rfl]
  generalize 2 ^ n = k
  rw [show (a : Int) * (k : Int) = ((a * k : Nat) : Int) from by simp]
  generalize a * k = m
  omega
theorem and_31 (z : Int) (h0 : 0 ≤ z) (h1 : z < 18446744073709551616) : Go.bits .and .u64 z 31 = z % 32 := by go_bits2
theorem turn_f (a n : Nat) (ha : a < 4294967296) (h1 : 1 ≤ n) (h2 : n ≤ 31) : sha_turn.f a n = some ((rotW a n : Nat) : Int) := by
  unfold sha_turn.f bits_RotateLeft32.f
  have e0 : wrap64 (-(n : Int)) = -(n : Int) := by unfold wrap64; omega
  have e1 : IntKind.u64.wrap (-(n : Int)) = 18446744073709551616 - (n : Int) := by rw [IntKind.wrap_u64]; omega
  have e2 : Go.bits .and .u64 (18446744073709551616 - (n : Int)) 31 = ((32 - n : Nat) : Int) := by rw [and_31 _ (by omega) (by omega)]; omega
  have e3 : IntKind.u64.wrap (32 - ((32 - n : Nat) : Int)) = (n : Int) := by rw [IntWalk.u64_in _ (by omega)]; omega
  rw [e0, e1, e2, if_pos (by omega), e3, if_pos (by omega), shr_w a n (by omega), shl_w a (32 - n) (by omega), or_w (shlW_lt _ _) (shrW_lt n ha)]
  simp only [Option.bind_some]
  unfold rotW orW
  rw [Nat.or_comm]
theorem turn_c (a n : Nat) (ha : a < 4294967296) (h1 : 1 ≤ n) (h2 : n ≤ 31) (w : World) : Calls Try.prog 64 #[.int .u32 (a : Int), .int .i64 (n : Int)] w (Tells w (Is (.int .u32 ((rotW a n : Nat) : Int)))) :=
  tells_is ((sha_turn.calls a n _ w (turn_f a n ha h1 h2)).mono fun _ _ ⟨h, k⟩ => ⟨h, drawn_below k⟩)
end Go.Proofs.Ytmifoihfpjomaaa.F

-- ShaS
namespace Go.Proofs.Ytmifoihfpjomaaa.F
open Go Go.RowKit
set_option linter.unusedSimpArgs false
set_option linter.unusedVariables false
def byteN (l : List Int) (i : Nat) : Nat := (l.getD i 0).toNat
def be32 (l : List Int) (t : Nat) : Nat := byteN l (4 * t) * 16777216 + byteN l (4 * t + 1) * 65536 + byteN l (4 * t + 2) * 256 + byteN l (4 * t + 3)
def sg0 (x : Nat) : Nat := xorW (xorW (rotW x 7) (rotW x 18)) (shrW x 3)
def sg1 (x : Nat) : Nat := xorW (xorW (rotW x 17) (rotW x 19)) (shrW x 10)
def wnext (w : List Nat) (t : Nat) : Nat := addW (addW (addW (w.getD (t - 16) 0) (w.getD (t - 7) 0)) (sg0 (w.getD (t - 15) 0))) (sg1 (w.getD (t - 2) 0))
/-- the schedule's first words -/
def ws (l : List Int) : Nat → List Nat
  | 0 => []
  | t + 1 => ws l t ++ [if t < 16 then be32 l t else wnext (ws l t) t]
/-- the eight words of a round -/
structure St where
  (a b c d e f g h : Nat)
def bigS1 (e : Nat) : Nat := xorW (xorW (rotW e 6) (rotW e 11)) (rotW e 25)
def bigS0 (a : Nat) : Nat := xorW (xorW (rotW a 2) (rotW a 13)) (rotW a 22)
def chW (e f g : Nat) : Nat := xorW (andW e f) (andW (notW e) g)
def majW (a b c : Nat) : Nat := xorW (xorW (andW a b) (andW a c)) (andW b c)
def uW (s : St) (k w : Nat) : Nat := addW (addW (addW (addW s.h (bigS1 s.e)) (chW s.e s.f s.g)) k) w
def vW (s : St) : Nat := addW (bigS0 s.a) (majW s.a s.b s.c)
def rstep (k w : Nat) (s : St) : St := ⟨addW (uW s k w) (vW s), s.a, s.b, s.c, addW s.d (uW s k w), s.e, s.f, s.g⟩
/-- the first rounds -/
def rn (ks ws : List Nat) : Nat → St → St
  | 0, s => s
  | t + 1, s => rstep (ks.getD t 0) (ws.getD t 0) (rn ks ws t s)
def St.list (s : St) : List Nat := [s.a, s.b, s.c, s.d, s.e, s.f, s.g, s.h]
def St.of (l : List Nat) : St := ⟨l.getD 0 0, l.getD 1 0, l.getD 2 0, l.getD 3 0, l.getD 4 0, l.getD 5 0, l.getD 6 0, l.getD 7 0⟩
/-- the sums, as far as they are made -/
def sumTo (s z : List Nat) (i : Nat) : List Nat := (List.range 8).map fun j => if j < i then addW (s.getD j 0) (z.getD j 0) else s.getD j 0
/-- a state mixed with a block -/
def mixL (ks s : List Nat) (l : List Int) : List Nat := sumTo s (rn ks (ws l 64) 64 (St.of s)).list 8
/-- all are words -/
def words (l : List Nat) : Prop := ∀ x ∈ l, x < 4294967296
structure St.ok (s : St) : Prop where
  (a : s.a < 4294967296) (b : s.b < 4294967296) (c : s.c < 4294967296) (d : s.d < 4294967296) (e : s.e < 4294967296) (f : s.f < 4294967296) (g : s.g < 4294967296) (h : s.h < 4294967296)
theorem words_get {l : List Nat} (h : words l) (i : Nat) : l.getD i 0 < 4294967296 := by
  rw [List.getD_eq_getElem?_getD]
  by_cases hi : i < l.length
  · rw [List.getElem?_eq_getElem hi]; exact h _ (List.getElem_mem hi)
  · rw [List.getElem?_eq_none (by omega)]; simp
theorem St.of_ok {l : List Nat} (h : words l) : (St.of l).ok := ⟨words_get h 0, words_get h 1, words_get h 2, words_get h 3, words_get h 4, words_get h 5, words_get h 6, words_get h 7⟩
theorem rstep_ok {s : St} (k w : Nat) (h : s.ok) : (rstep k w s).ok := ⟨addW_lt _ _, h.a, h.b, h.c, addW_lt _ _, h.e, h.f, h.g⟩
theorem rn_ok {ks ws : List Nat} {s : St} (h : s.ok) : ∀ t, (rn ks ws t s).ok
  | 0 => h
  | t + 1 => rstep_ok _ _ (rn_ok h t)
theorem ws_len (l : List Int) : ∀ t, (ws l t).length = t
  | 0 => rfl
  | t + 1 => by simp [ws, ws_len l t]
theorem byteN_lt {l : List Int} (h : ∀ x ∈ l, 0 ≤ x ∧ x < 256) (i : Nat) : byteN l i < 256 := by
  unfold byteN
  rw [List.getD_eq_getElem?_getD]
  by_cases hi : i < l.length
  · rw [List.getElem?_eq_getElem hi]; have := h _ (List.getElem_mem hi); simp; omega
  · rw [List.getElem?_eq_none (by omega)]; simp
theorem be32_lt {l : List Int} (h : ∀ x ∈ l, 0 ≤ x ∧ x < 256) (t : Nat) : be32 l t < 4294967296 := by
  have h0 := byteN_lt h (4 * t)
  have h1 := byteN_lt h (4 * t + 1)
  have h2 := byteN_lt h (4 * t + 2)
  have h3 := byteN_lt h (4 * t + 3)
  unfold be32; omega
theorem ws_words {l : List Int} (h : ∀ x ∈ l, 0 ≤ x ∧ x < 256) : ∀ t, words (ws l t)
  | 0 => fun x hx => by simp [ws] at hx
  | t + 1 => fun x hx => by
    rcases List.mem_append.1 hx with hx | hx
    · exact ws_words h t x hx
    · rw [List.mem_singleton.1 hx]
      split
      · exact be32_lt h t
      · exact addW_lt _ _
theorem sumTo_words (s z : List Nat) (hs : words s) (i : Nat) : words (sumTo s z i) := by
  intro x hx
  obtain ⟨j, -, rfl⟩ := List.mem_map.1 hx
  show (if j < i then addW (s.getD j 0) (z.getD j 0) else s.getD j 0) < 4294967296
  split
  · exact addW_lt _ _
  · exact words_get hs j
theorem list8 (s : List Nat) (h : s.length = 8) : (List.range 8).map (fun j => s.getD j 0) = s := by
  apply List.ext_getElem?
  intro j
  by_cases hj : j < 8
  · rw [List.getElem?_map, List.getElem?_range hj, List.getElem?_eq_getElem (by omega : j < s.length)]
    show some (s.getD j 0) = _
    rw [List.getD_eq_getElem?_getD, List.getElem?_eq_getElem (by omega : j < s.length)]; rfl
  · rw [List.getElem?_eq_none (by simp; omega), List.getElem?_eq_none (by omega)]
theorem sumTo_0 (s z : List Nat) (h : s.length = 8) : sumTo s z 0 = s := by
  have : sumTo s z 0 = (List.range 8).map (fun j => s.getD j 0) := by unfold sumTo; simp
  rw [this, list8 s h]
theorem sumTo_len (s z : List Nat) (i : Nat) : (sumTo s z i).length = 8 := by simp [sumTo]
theorem sumTo_get (s z : List Nat) (i j : Nat) (h : j < 8) : (sumTo s z i)[j]? = some (if j < i then addW (s.getD j 0) (z.getD j 0) else s.getD j 0) := by
  unfold sumTo
  rw [List.getElem?_map, List.getElem?_range h]; rfl
theorem sumTo_at (s z : List Nat) (i : Nat) (h : i < 8) : (sumTo s z i).getD i 0 = s.getD i 0 := by
  rw [List.getD_eq_getElem?_getD, sumTo_get s z i i h, if_neg (by omega)]; rfl
theorem sumTo_succ (s z : List Nat) (i : Nat) (h : i < 8) : (sumTo s z i).set i (addW (s.getD i 0) (z.getD i 0)) = sumTo s z (i + 1) := by
  apply List.ext_getElem?
  intro j
  by_cases hj : j < 8
  · rw [List.getElem?_set, sumTo_len, sumTo_get s z (i + 1) j hj, sumTo_get s z i j hj]
    by_cases e : i = j
    · subst e; rw [if_pos rfl, if_pos h, if_pos (by omega)]
    · rw [if_neg e]
      by_cases h1 : j < i
      · rw [if_pos h1, if_pos (by omega)]
      · rw [if_neg h1, if_neg (by omega)]
  · rw [List.getElem?_eq_none (by rw [List.length_set, sumTo_len]; omega), List.getElem?_eq_none (by rw [sumTo_len]; omega)]
theorem mixL_words (ks s : List Nat) (l : List Int) (hs : words s) : words (mixL ks s l) := sumTo_words _ _ hs _
theorem mixL_len (ks s : List Nat) (l : List Int) : (mixL ks s l).length = 8 := by simp [mixL, sumTo]
/-- a byte put behind -/
theorem or_byte (x b : Nat) (hx : x < 16777216) (hb : b < 256) : orW (shlW x 8) b = x * 256 + b := by
  unfold orW shlW
  rw [Nat.shiftLeft_eq, Nat.mod_eq_of_lt (by omega), show x * 2 ^ 8 = 2 ^ 8 * x from by omega, ← Nat.two_pow_add_eq_or_of_lt (by omega : b < 2 ^ 8)]
end Go.Proofs.Ytmifoihfpjomaaa.F
