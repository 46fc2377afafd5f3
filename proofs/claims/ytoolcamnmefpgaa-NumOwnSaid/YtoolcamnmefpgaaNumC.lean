/- What the functions of the package num and of its reference come to, in closed form: the bytes of a number, and the number at a place of bytes. -/
import Derived.Test.YtoolcamnmefpgaaF12
import Derived.Test.YtoolcamnmefpgaaF14
import Derived.Test.YtoolcamnmefpgaaF15
import Derived.Test.YtoolcamnmefpgaaF13
import Derived.Test.YtoolcamnmefpgaaF16
import Derived.Test.YtoolcamnmefpgaaNumMath
import Derived.Test.YtoolcamnmefpgaaReg
import Derived.Lib.Hide
namespace Go.Proofs.Ytoolcamnmefpgaa.F
open Go Go.RowKit Go.Proofs.YtoolcamnmefpgaaW.PrintWords Go.Proofs.YtoolcamnmefpgaaW.PrintLast Go.Proofs.YtoolcamnmefpgaaW.PrintMore Go.Proofs.YtoolcamnmefpgaaM Go.Proofs.YtoolcamnmefpgaaR
set_option linter.unusedSimpArgs false
set_option linter.unusedVariables false
theorem drawn_below {w w' : World} (h : Drawn0 w w') : Below w.heap.size w w' := h.below
theorem obs {α β : Type} (a : α) (f : α → Option β) : (some a).bind f = f a := by cases h : f a <;> simp [h]
theorem w64 {x : Int} (h : -9223372036854775808 ≤ x) (k : x ≤ 9223372036854775807) : wrap64 x = x := by unfold wrap64; omega
theorem bytes_of {l : List Int} (h : ∀ x ∈ l, (Lit.int .u8 x).wf = true) : ∀ x ∈ l, 0 ≤ x ∧ x < 256 := by
  intro x hx
  have := h x hx
  simp [Lit.wf, IntKind.min, IntKind.max, IntKind.bits, IntKind.signed] at this
  omega
theorem str_size (l : List Int) : (strOfNums l).size = l.length := by
  unfold strOfNums; simp [ByteArray.size]
theorem str_append (l m : List Int) : strOfNums l ++ strOfNums m = strOfNums (l ++ m) := by
  unfold strOfNums
  apply ByteArray.ext
  simp
theorem bytesOf_str {l : List Int} (h : ∀ x ∈ l, 0 ≤ x ∧ x < 256) : bytesOf (strOfNums l) = l := by
  unfold bytesOf strOfNums
  simp only [List.map_map]
  refine List.ext_getElem (by simp) fun i h1 h2 => ?_
  have := h (l[i]) (List.getElem_mem _)
  simp [Function.comp]
  omega
/-- a row of bytes that can be read -/
def Row (l : List Int) : World → Value → Prop := fun w v => ∃ A c, v = .slice A l.length c ∧ l.length ≤ c ∧ Kd.C (Kd.int .u8) w A l.length l
theorem Row.stable (l : List Int) : ∀ w w' v, Grew w w' → Row l w v → Row l w' v := fun _ _ _ hg ⟨A, c, h1, h2, h3⟩ => ⟨A, c, h1, h2, Kd.C_below h3 hg⟩
theorem row_of_R {w : World} {base : Nat} {ok : Nat → Prop} {e : Nat} {v : Value} {l : List Int} (h : Kd.R (Kd.int .u8) e w base ok v l) : Row l w v := Kd.R_reads h
theorem size_l0 : ∀ (k n : Nat) (s : Int), (putL n).length ≤ k → 0 ≤ s → s + (putL n).length ≤ 1000 → num_Size.l0 k (n : Int) s = some (s + (putL n).length - 1)
  | 0, n, s, h, _, _ => by have := putL_pos n; omega
  | k + 1, n, s, h, h0, h1 => by
    simp only [num_Size.l0]
    by_cases hn : n < 128
    · rw [if_neg (by omega), putL_lt hn]; simp
    · rw [if_pos (by omega)]
      rw [putL_ge hn] at h h1 ⊢
      simp only [List.length_cons] at h h1 ⊢
      rw [w64 (by omega) (by omega), show (n : Int) / 128 = ((n / 128 : Nat) : Int) from by omega, size_l0 k (n / 128) (s + 1) (by omega) (by omega) (by omega)]
      congr 1; omega
theorem size_f (k n : Nat) (hk : 10 ≤ k) (h : n < 18446744073709551616) : num_Size.f k (n : Int) = some ((putL n).length : Int) := by
  have := putL_ten h
  unfold num_Size.f
  rw [size_l0 k n 1 (by omega) (by omega) (by omega)]
  congr 1; omega
theorem size_c (n : Nat) (w : World) (h : n < 18446744073709551616) : Calls Try.prog 14 #[.int .u64 n] w (Tells w (Is (.int .i64 (putL n).length))) :=
  tells_is ((num_Size.calls 10 n _ w (size_f 10 n (by omega) h)).mono fun _ _ ⟨h, k⟩ => ⟨h, drawn_below k⟩)
theorem lay_l0 : ∀ (k n : Nat) (l : List Int), (putL n).length ≤ k → l.length + (putL n).length < 140737488355328 → num_lay.l0 k l (n : Int) = some (l ++ putL n)
  | 0, n, l, h, _ => by have := putL_pos n; omega
  | k + 1, n, l, h, h1 => by
    simp only [num_lay.l0]
    have := putL_pos n
    by_cases hn : n < 128
    · rw [if_neg (by omega), if_pos (by omega), putL_lt hn, show (n : Int) % 256 = n from by omega]
    · rw [if_pos (by omega), if_pos (by omega), or128]
      rw [putL_ge hn] at h h1 ⊢
      simp only [List.length_cons] at h h1
      rw [show (n : Int) / 128 = ((n / 128 : Nat) : Int) from by omega, show (n : Int) % 128 + 128 = ((n % 128 + 128 : Nat) : Int) from by omega, lay_l0 k (n / 128) _ (by omega) (by simp; omega)]
      simp
theorem lay_f (k n : Nat) (l : List Int) (hk : 10 ≤ k) (h : n < 18446744073709551616) (hl : l.length ≤ 140737488351232) : num_lay.f k l (n : Int) = some (l ++ putL n) := by
  have := putL_ten h
  unfold num_lay.f
  exact lay_l0 k n l (by omega) (by omega)
theorem own_f (l : List Int) (hl : l.length ≤ 140737488351232) : num_own.f l = some l := by
  unfold num_own.f
  rw [obs, if_pos (by simp; omega)]; simp
theorem put_f (k n : Nat) (l : List Int) (hk : 10 ≤ k) (h : n < 18446744073709551616) (hl : l.length ≤ 140737488351232) : num_Put.f k l (n : Int) = some (l ++ putL n) := by
  unfold num_Put.f
  rw [own_f l hl, obs, lay_f k n l hk h hl, obs]
theorem put_c (A : Option Addr) (c : Nat) (l : List Int) (n : Nat) (w : World) (hr : Kd.C (Kd.int .u8) w A l.length l) (hc : l.length ≤ c) (h : n < 18446744073709551616) (hl : l.length ≤ 140737488351232) :
    Calls Try.prog 12 #[.slice A l.length c, .int .u64 n] w (Tells w (Row (l ++ putL n))) :=
  (num_Put.calls 10 A c l n _ w hr hc (put_f 10 n l (by omega) h hl)).mono fun e w' ⟨v, he, hR, hb⟩ => ⟨v, he, row_of_R hR, hb⟩
theorem u64_wrap (n : Int) : IntKind.u64.wrap n = n % 18446744073709551616 := by simp [IntKind.wrap, IntKind.bits, IntKind.signed]
theorem rput_f : ∀ (k n : Nat), (putL n).length ≤ k → k ≤ 1000 → n < 18446744073709551616 → strongroomref01_Put.f k (n : Int) = some (strOfNums (putL n))
  | 0, n, h, _, _ => by have := putL_pos n; omega
  | k + 1, n, h, h1, h2 => by
    simp only [strongroomref01_Put.f]
    by_cases hn : n < 128
    · rw [if_pos (by omega), putL_lt hn, show (n : Int) % 256 = n from by omega]
    · rw [if_neg (by omega), obs]
      rw [putL_ge hn] at h ⊢
      simp only [List.length_cons] at h
      rw [Int.tdiv_eq_ediv_of_nonneg (by omega), Int.tmod_eq_emod_of_nonneg (by omega), u64_wrap, u64_wrap, show ((n : Int) / 128) % 18446744073709551616 = ((n / 128 : Nat) : Int) from by omega, rput_f k (n / 128) (by omega) (by omega) (by omega), obs, if_pos (by rw [str_size, str_size]; simp; omega), str_append]
      congr 2
      simp only [List.cons_append, List.nil_append]
      congr 1
      omega
theorem rput_c (n : Nat) (w : World) (h : n < 18446744073709551616) : Calls Try.prog 13 #[.int .u64 n] w (Tells w (Is (.string (strOfNums (putL n))))) :=
  tells_is (strongroomref01_Put.calls 10 n _ w (rput_f 10 n (putL_ten h) (by omega) h))
end Go.Proofs.Ytoolcamnmefpgaa.F
