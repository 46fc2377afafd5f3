/- Plain laws of numbers in sevens of bits: what is written, how long it is, what is read, there and back. No program in sight. -/
import Derived.Laws.BitsLemmas
import Derived.RowKit
namespace Go.Proofs.YtoolcamnmefpgaaM
open Go Go.RowKit
set_option linter.unusedVariables false
/-- a number's bytes -/
def putL (n : Nat) : List Int := if n < 128 then [(n : Int)] else ((n % 128 + 128 : Nat) : Int) :: putL (n / 128)
termination_by n
decreasing_by omega
theorem putL_lt {n : Nat} (h : n < 128) : putL n = [(n : Int)] := by rw [putL, if_pos h]
theorem putL_ge {n : Nat} (h : ¬ n < 128) : putL n = ((n % 128 + 128 : Nat) : Int) :: putL (n / 128) := by rw [putL, if_neg h]
theorem putL_bytes (n : Nat) : ∀ x ∈ putL n, 0 ≤ x ∧ x < 256 := by
  induction n using Nat.strongRecOn with
  | _ n ih =>
    intro x hx
    by_cases h : n < 128
    · rw [putL_lt h] at hx; simp at hx; omega
    · rw [putL_ge h] at hx
      rcases List.mem_cons.1 hx with rfl | hx
      · omega
      · exact ih (n / 128) (by omega) x hx
theorem putL_pos (n : Nat) : 1 ≤ (putL n).length := by
  by_cases h : n < 128
  · rw [putL_lt h]; simp
  · rw [putL_ge h]; simp
theorem putL_len : ∀ (k n : Nat), n < 128 ^ (k + 1) → (putL n).length ≤ k + 1
  | 0, n, h => by rw [putL_lt (by simpa using h)]; simp
  | k + 1, n, h => by
    by_cases h0 : n < 128
    · rw [putL_lt h0]; simp
    · rw [putL_ge h0]
      have := putL_len k (n / 128) (by rw [Nat.div_lt_iff_lt_mul (by decide)]; rw [← Nat.pow_succ]; exact h)
      simp; omega
theorem putL_ten {n : Nat} (h : n < 18446744073709551616) : (putL n).length ≤ 10 := putL_len 9 n (by omega)
theorem or128 (x : Int) : Go.bits .or .u8 (x % 256) 128 = x % 128 + 128 := by
  have key : ∀ y : Fin 256, Go.bits .or .u8 ((y.val : Nat) : Int) 128 = ((y.val : Nat) : Int) % 128 + 128 := by decide +kernel
  have := key ⟨(x % 256).toNat, by omega⟩
  simp only at this
  rw [show (((x % 256).toNat : Nat) : Int) = x % 256 from by omega] at this
  rw [this]; omega
/-- what is read: the number, how many bytes, the error's number -/
def getS : Nat → List Int → Int → Int → Int × Int × Int
  | 0, _, _, _ => (0, 0, 4)
  | _ + 1, [], _, _ => (0, 0, 3)
  | f + 1, x :: r, acc, u => if x < 128 then (if (x = 0 ∧ f < 9) ∨ (f = 0 ∧ 1 < x) then (0, 0, 4) else (acc + x * u, 10 - (f : Int), 0)) else getS f r (acc + (x - 128) * u) (u * 128)
def getL (l : List Int) (at_ : Int) : Int × Int × Int :=
  if at_ < 0 ∨ (l.length : Int) < at_ then (0, 0, 9) else
    let r := getS 10 (l.drop at_.toNat) 0 1
    if r.2.2 = 0 then (r.1, at_ + r.2.1, 0) else (0, 0, r.2.2)
theorem getS_err : ∀ (f : Nat) (l : List Int) (acc u : Int), (getS f l acc u).2.2 ≠ 0 → (getS f l acc u).1 = 0 ∧ (getS f l acc u).2.1 = 0
  | 0, _, _, _, _ => by simp [getS]
  | f + 1, [], _, _, _ => by simp [getS]
  | f + 1, x :: r, acc, u, h => by
    simp only [getS] at h ⊢
    split at h
    · split at h
      · rename_i h1 h2; rw [if_pos h1, if_pos h2]; exact ⟨rfl, rfl⟩
      · exact absurd rfl h
    · rename_i h1; rw [if_neg h1]; exact getS_err f r _ _ h
/-- what was written is read again -/
theorem getS_put : ∀ (f n : Nat) (b : List Int) (acc u : Int), n < 2 * 128 ^ f → f ≤ 9 → (n ≠ 0 ∨ f = 9) → getS (f + 1) (putL n ++ b) acc u = (acc + (n : Int) * u, 10 - (f : Int) + ((putL n).length : Int) - 1, 0)
  | 0, n, b, acc, u, hn, _, h2 => by
    have hn : n = 1 := by simp at hn; omega
    subst hn
    rw [putL_lt (by decide)]
    simp [getS]
  | f + 1, n, b, acc, u, hn, hf, h2 => by
    by_cases h0 : n < 128
    · rw [putL_lt h0]
      simp only [List.cons_append, List.nil_append, getS]
      rw [if_pos (by omega), if_neg (by omega)]
      simp
    · rw [putL_ge h0]
      simp only [List.cons_append, getS]
      rw [if_neg (by omega)]
      rw [getS_put f (n / 128) b _ _ (by rw [Nat.div_lt_iff_lt_mul (by decide)]; rw [Nat.mul_assoc, ← Nat.pow_succ]; exact hn) (by omega) (by left; omega)]
      have e : (n : Int) = (n % 128 : Nat) + 128 * (n / 128 : Nat) := by omega
      refine Prod.ext ?_ (Prod.ext ?_ rfl)
      · simp only
        rw [show (((n % 128 + 128 : Nat) : Int) - 128) = ((n % 128 : Nat) : Int) from by omega]
        conv => rhs; rw [e]
        rw [Int.add_mul, Int.add_assoc, Int.mul_comm u 128, ← Int.mul_assoc, Int.mul_comm 128]
      · simp only [List.length_cons]; omega
/-- cut short it ends too early -/
theorem getS_cut : ∀ (f n k : Nat) (acc u : Int), n < 2 * 128 ^ f → f ≤ 9 → k < (putL n).length → getS (f + 1) ((putL n).take k) acc u = (0, 0, 3)
  | f, n, 0, acc, u, _, _, _ => by simp [getS]
  | 0, n, k + 1, acc, u, hn, _, hk => by
    rw [putL_lt (by simp at hn; omega)] at hk
    simp at hk
  | f + 1, n, k + 1, acc, u, hn, hf, hk => by
    by_cases h0 : n < 128
    · rw [putL_lt h0] at hk; simp at hk
    · rw [putL_ge h0] at hk ⊢
      simp only [List.take_succ_cons, getS]
      rw [if_neg (by omega)]
      exact getS_cut f (n / 128) k _ _ (by rw [Nat.div_lt_iff_lt_mul (by decide)]; rw [Nat.mul_assoc, ← Nat.pow_succ]; exact hn) (by omega) (by simpa using hk)
/-- what is read is just what is written of it -/
theorem getS_ok : ∀ (f : Nat) (l : List Int) (acc u : Int), f ≤ 9 → (∀ x ∈ l, 0 ≤ x ∧ x < 256) → (getS (f + 1) l acc u).2.2 = 0 →
    ∃ (n : Nat) (rest : List Int), n < 2 * 128 ^ f ∧ (n ≠ 0 ∨ f = 9) ∧ l = putL n ++ rest ∧ getS (f + 1) l acc u = (acc + (n : Int) * u, 10 - (f : Int) + ((putL n).length : Int) - 1, 0)
  | f, [], acc, u, _, _, h => by simp [getS] at h
  | f, x :: l, acc, u, hf, hb, h => by
    have hx := hb x (by simp)
    simp only [getS] at h ⊢
    by_cases h1 : x < 128
    · rw [if_pos h1] at h ⊢
      by_cases h2 : (x = 0 ∧ f < 9) ∨ (f = 0 ∧ 1 < x)
      · rw [if_pos h2] at h; simp at h
      · rw [if_neg h2]
        refine ⟨x.toNat, l, ?_, by omega, ?_, ?_⟩
        · rcases Nat.eq_zero_or_pos f with rfl | h3
          · simp; omega
          · have : 128 ^ 1 ≤ 128 ^ f := Nat.pow_le_pow_right (by decide) h3
            omega
        · rw [putL_lt (by omega)]; simp; omega
        · rw [putL_lt (by omega)]
          rw [show ((x.toNat : Nat) : Int) = x from by omega]
          simp
    · rw [if_neg h1] at h ⊢
      cases f with
      | zero => simp [getS] at h
      | succ f =>
        obtain ⟨n, rest, hn, h0, hl, hr⟩ := getS_ok f l _ _ (by omega) (fun y hy => hb y (by simp [hy])) h
        have hn0 : n ≠ 0 := h0.resolve_right (by omega)
        refine ⟨(x - 128).toNat + 128 * n, rest, ?_, by left; omega, ?_, ?_⟩
        · rw [Nat.pow_succ]; omega
        · rw [putL_ge (by omega), hl]
          rw [show ((x - 128).toNat + 128 * n) % 128 = (x - 128).toNat from by omega, show ((x - 128).toNat + 128 * n) / 128 = n from by omega]
          simp; omega
        · rw [hr, putL_ge (n := (x - 128).toNat + 128 * n) (by omega), show ((x - 128).toNat + 128 * n) / 128 = n from by omega]
          refine Prod.ext ?_ (Prod.ext ?_ rfl)
          · simp only
            rw [show ((((x - 128).toNat + 128 * n : Nat)) : Int) = (x - 128) + 128 * n from by omega]
            rw [Int.add_mul, Int.add_assoc, Int.mul_comm u 128, ← Int.mul_assoc, Int.mul_comm 128]
          · simp only [List.length_cons]; omega
theorem getL_ok {l : List Int} {a : Int} (hb : ∀ x ∈ l, 0 ≤ x ∧ x < 256) (h : (getL l a).2.2 = 0) :
    ∃ m n : Nat, a = m ∧ n < 18446744073709551616 ∧ getL l a = ((n : Int), ((m + (putL n).length : Nat) : Int), 0) ∧ m + (putL n).length ≤ l.length ∧ (l.take (m + (putL n).length)).drop m = putL n := by
  unfold getL at h ⊢
  by_cases h0 : a < 0 ∨ (l.length : Int) < a
  · rw [if_pos h0] at h; simp at h
  · rw [if_neg h0] at h ⊢
    obtain ⟨m, rfl⟩ := Int.eq_ofNat_of_zero_le (show 0 ≤ a by omega)
    rw [show ((m : Int)).toNat = m from by omega] at h ⊢
    simp only at h ⊢
    by_cases h1 : (getS 10 (l.drop m) 0 1).2.2 = 0
    · rw [if_pos h1] at h ⊢
      obtain ⟨n, rest, hn, _, hl, hr⟩ := getS_ok 9 (l.drop m) 0 1 (by omega) (fun x hx => hb x (List.mem_of_mem_drop hx)) h1
      refine ⟨m, n, rfl, by have : 2 * 128 ^ 9 = 18446744073709551616 := by decide
                            omega, ?_, ?_, ?_⟩
      · rw [hr]; simp; omega
      · have := congrArg List.length hl
        simp at this; omega
      · rw [List.drop_take, hl, Nat.add_sub_cancel_left]; simp
    · rw [if_neg h1] at h; exact absurd h h1
theorem getL_err {l : List Int} {a : Int} (h : (getL l a).2.2 ≠ 0) : (getL l a).1 = 0 ∧ (getL l a).2.1 = 0 := by
  unfold getL at h ⊢
  by_cases h0 : a < 0 ∨ (l.length : Int) < a
  · rw [if_pos h0]; exact ⟨rfl, rfl⟩
  · rw [if_neg h0] at h ⊢
    simp only at h ⊢
    split at h
    · exact absurd rfl h
    · rename_i h1; rw [if_neg h1]; exact ⟨rfl, rfl⟩
theorem two9 {n : Nat} (h : n < 18446744073709551616) : n < 2 * 128 ^ 9 := by
  have : 2 * 128 ^ 9 = 18446744073709551616 := by decide
  omega
theorem getL_put (a b : List Int) (n : Nat) (h : n < 18446744073709551616) : getL (a ++ putL n ++ b) a.length = ((n : Int), ((a.length + (putL n).length : Nat) : Int), 0) := by
  unfold getL
  rw [if_neg (by simp; omega)]
  simp only [Int.toNat_natCast]
  rw [List.append_assoc, List.drop_left, getS_put 9 n b 0 1 (two9 h) (by omega) (.inr rfl)]
  simp; omega
theorem getL_cut (a : List Int) (n k : Nat) (h : n < 18446744073709551616) (h1 : a.length ≤ k) (h2 : k < a.length + (putL n).length) : getL ((a ++ putL n).take k) a.length = (0, 0, 3) := by
  unfold getL
  rw [if_neg (by simp; omega)]
  simp only [Int.toNat_natCast]
  rw [List.drop_take, List.drop_left, getS_cut 9 n (k - a.length) 0 1 (two9 h) (by omega) (by omega)]
  simp
end Go.Proofs.YtoolcamnmefpgaaM
