/- What Next and Join of the package roll and of its reference come to: the same numbers, for all sums, sizes and bytes. -/
import Derived.Test.YtgkghmhgpfjddaaRollC
import Derived.Test.YtgkghmhgpfjddaaF13
import Derived.Test.YtgkghmhgpfjddaaF15
import Derived.Test.YtgkghmhgpfjddaaF16
namespace Go.Proofs.Ytgkghmhgpfjddaa.F
open Go Go.RowKit Go.Proofs.YtgkghmhgpfjddaaW.PrintWords Go.Proofs.YtgkghmhgpfjddaaW.PrintLast Go.Proofs.YtgkghmhgpfjddaaW.PrintMore Go.Proofs.YtgkghmhgpfjddaaM Go.Proofs.YtgkghmhgpfjddaaR
set_option linter.unusedSimpArgs false
set_option linter.unusedVariables false
theorem join_f (x y size : Int) (x0 : 0 ≤ x) (x1 : x < 4294967296) (y0 : 0 ≤ y) (y1 : y < 4294967296) : roll_Join.f x y size = some (join x y size) := by
  unfold roll_Join.f
  rw [and16 x x0 x1, and16 y y0 y1, make16_f _ _ (by omega) (by omega)]
  simp only [Option.bind_some, join]
  congr 2
  · omega
  · have := mul_mod16 size (x % 65536)
    omega
theorem join_c (x y size : Int) (w : World) (x0 : 0 ≤ x) (x1 : x < 4294967296) (y0 : 0 ≤ y) (y1 : y < 4294967296) :
    Calls Try.prog 13 #[.int .u32 x, .int .u32 y, .int .i64 size] w (Tells w (Is (.int .u32 (join x y size)))) :=
  tells_is ((roll_Join.calls x y size _ w (join_f x y size x0 x1 y0 y1)).mono fun _ _ ⟨h, k⟩ => ⟨h, drawn_below k⟩)
theorem next_c (s n o i : Int) (w : World) (s0 : 0 ≤ s) (s1 : s < 4294967296) (o0 : 0 ≤ o) (o1 : o < 256) (i0 : 0 ≤ i) (i1 : i < 256) :
    Calls Try.prog 14 #[.int .u32 s, .int .i64 n, .int .u8 o, .int .u8 i] w (Tells w (Is (.int .u32 (next s n o i)))) := by
  have ha := and16 s s0 s1
  go_enter Try.func14, Try.ntmps14
  go_wp2_with fail
  refine (make16_c _ _ _ (by omega) (by omega)).mono ?_
  rintro e w' ⟨_, rfl, rfl, hg⟩
  go_wp2
  go_ret
  refine ⟨_, rfl, ?_, hg⟩
  simp only [Is]
  simp
  have := mul_mod16 n o
  unfold next
  omega
theorem w64 {x : Int} (h : -9223372036854775808 ≤ x) (k : x ≤ 9223372036854775807) : wrap64 x = x := by unfold wrap64; omega
theorem rest_f (n : Int) : strongroomref04_rest.f n = some (n % 65536) := by
  unfold strongroomref04_rest.f
  have h := Int.tmod_eq_emod (a := n) (b := 65536)
  have e : Int.tmod n 65536 = if 0 ≤ n ∨ n % 65536 = 0 then n % 65536 else n % 65536 - 65536 := by
    rw [h]
    by_cases c : 0 ≤ n ∨ n % 65536 = 0
    · rw [if_pos c, if_pos (c.imp id (fun c => by omega))]; omega
    · rw [if_neg c, if_neg (by omega)]; simp
  rw [e]
  split
  · rw [if_neg (by omega)]
  · rw [if_pos (by omega)]; unfold wrap64; congr 1; omega
theorem rnext_f (s n o i : Int) (s0 : 0 ≤ s) (s1 : s < 4294967296) (o0 : 0 ≤ o) (o1 : o < 256) (i0 : 0 ≤ i) (i1 : i < 256) : strongroomref04_Next.f s n o i = some (next s n o i) := by
  unfold strongroomref04_Next.f
  simp only [rest_f, Option.bind_some]
  rw [Int.tmod_eq_emod_of_nonneg s0, Int.tdiv_eq_ediv_of_nonneg s0]
  unfold next
  have e1 : wrap64 (n % 65536 * wrap64 o) = n % 65536 * o := by
    have b1 : n % 65536 * o ≤ 65535 * 255 := Int.mul_le_mul (by omega) (by omega) o0 (by omega)
    have b0 : 0 ≤ n % 65536 * o := Int.mul_nonneg (by omega) o0
    rw [show wrap64 o = o from by unfold wrap64; omega]
    unfold wrap64; omega
  rw [e1]
  have e2 : (n % 65536 * o) % 65536 = (n * o) % 65536 := by rw [Int.mul_emod, Int.emod_emod_of_dvd _ (Int.dvd_refl _), ← Int.mul_emod]
  have b1 : n % 65536 * o ≤ 65535 * 255 := Int.mul_le_mul (by omega) (by omega) o0 (by omega)
  have b0 : 0 ≤ n % 65536 * o := Int.mul_nonneg (by omega) o0
  generalize n % 65536 * o = z at *
  generalize n * o = y at *
  congr 1
  rw [w64 (x := s % 65536) (by omega) (by omega), w64 (x := o) (by omega) (by omega), w64 (x := i) (by omega) (by omega), w64 (x := s % 65536 - o) (by omega) (by omega), w64 (x := s % 65536 - o + i) (by omega) (by omega),
    w64 (x := s / 65536 % 4294967296 - z) (by omega) (by omega), w64 (x := s / 65536 % 4294967296 - z + (s % 65536 - o + i) % 65536) (by omega) (by omega),
    w64 (x := 65536 * ((s / 65536 % 4294967296 - z + (s % 65536 - o + i) % 65536) % 65536)) (by omega) (by omega),
    w64 (x := (s % 65536 - o + i) % 65536 + 65536 * ((s / 65536 % 4294967296 - z + (s % 65536 - o + i) % 65536) % 65536)) (by omega) (by omega)]
  omega
theorem rjoin_f (x y size : Int) (x0 : 0 ≤ x) (x1 : x < 4294967296) (y0 : 0 ≤ y) (y1 : y < 4294967296) : strongroomref04_Join.f x y size = some (join x y size) := by
  unfold strongroomref04_Join.f
  simp only [rest_f, Option.bind_some]
  rw [Int.tmod_eq_emod_of_nonneg x0, Int.tmod_eq_emod_of_nonneg y0, Int.tdiv_eq_ediv_of_nonneg x0, Int.tdiv_eq_ediv_of_nonneg y0]
  unfold join
  have b1 : size % 65536 * (x % 65536) ≤ 65535 * 65535 := Int.mul_le_mul (by omega) (by omega) (by omega) (by omega)
  have b0 : 0 ≤ size % 65536 * (x % 65536) := Int.mul_nonneg (by omega) (by omega)
  have e2 : (size % 65536 * (x % 65536)) % 65536 = (size * (x % 65536)) % 65536 := by rw [Int.mul_emod, Int.emod_emod_of_dvd _ (Int.dvd_refl _), ← Int.mul_emod]
  rw [show wrap64 (x % 65536) = x % 65536 from by unfold wrap64; omega]
  rw [w64 (x := size % 65536 * (x % 65536)) (by omega) (by omega)]
  generalize size % 65536 * (x % 65536) = z at *
  generalize size * (x % 65536) = u at *
  congr 1
  rw [w64 (x := y % 65536) (by omega) (by omega), w64 (x := x % 65536 + y % 65536) (by omega) (by omega),
    w64 (x := x / 65536 % 4294967296 + y / 65536 % 4294967296 + z) (by omega) (by omega),
    w64 (x := 65536 * ((x / 65536 % 4294967296 + y / 65536 % 4294967296 + z) % 65536)) (by omega) (by omega),
    w64 (x := (x % 65536 + y % 65536) % 65536 + 65536 * ((x / 65536 % 4294967296 + y / 65536 % 4294967296 + z) % 65536)) (by omega) (by omega)]
  omega
theorem rnext_c (s n o i : Int) (w : World) (s0 : 0 ≤ s) (s1 : s < 4294967296) (o0 : 0 ≤ o) (o1 : o < 256) (i0 : 0 ≤ i) (i1 : i < 256) :
    Calls Try.prog 15 #[.int .u32 s, .int .i64 n, .int .u8 o, .int .u8 i] w (Tells w (Is (.int .u32 (next s n o i)))) :=
  tells_is ((strongroomref04_Next.calls s n o i _ w (rnext_f s n o i s0 s1 o0 o1 i0 i1)).mono fun _ _ ⟨h, k⟩ => ⟨h, drawn_below k⟩)
theorem rjoin_c (x y size : Int) (w : World) (x0 : 0 ≤ x) (x1 : x < 4294967296) (y0 : 0 ≤ y) (y1 : y < 4294967296) :
    Calls Try.prog 16 #[.int .u32 x, .int .u32 y, .int .i64 size] w (Tells w (Is (.int .u32 (join x y size)))) :=
  tells_is ((strongroomref04_Join.calls x y size _ w (rjoin_f x y size x0 x1 y0 y1)).mono fun _ _ ⟨h, k⟩ => ⟨h, drawn_below k⟩)
end Go.Proofs.Ytgkghmhgpfjddaa.F
