/- What Next and Join of the package roll come to, for all sums, sizes and bytes. -/
import Derived.Test.YtaeobiilihklhaaRollC
import Derived.Test.YtaeobiilihklhaaF33
namespace Go.Proofs.Ytaeobiilihklhaa.F
open Go Go.RowKit Go.Proofs.YtaeobiilihklhaaW.PrintWords Go.Proofs.YtaeobiilihklhaaW.PrintLast Go.Proofs.YtaeobiilihklhaaW.PrintMore Go.Proofs.YtaeobiilihklhaaM Go.Proofs.YtaeobiilihklhaaR
set_option linter.unusedSimpArgs false
set_option linter.unusedVariables false
theorem join_f (x y size : Int) (x0 : 0 ≤ x) (x1 : x < 4294967296) (y0 : 0 ≤ y) (y1 : y < 4294967296) : roll_Join.f x y size = some (join x y size) := by
  unfold roll_Join.f
  rw [and16 x x0 x1, and16 y y0 y1, make16_f _ _ (by omega) (by omega)]
  simp only [Option.bind_some, join]
  congr 2
  · omega
  · have := mul_mod16 size (x % 65536)
    omega
theorem join_c (x y size : Int) (w : World) (x0 : 0 ≤ x) (x1 : x < 4294967296) (y0 : 0 ≤ y) (y1 : y < 4294967296) :
    Calls Try.prog 33 #[.int .u32 x, .int .u32 y, .int .i64 size] w (Tells w (Is (.int .u32 (join x y size)))) :=
  tells_is ((roll_Join.calls x y size _ w (join_f x y size x0 x1 y0 y1)).mono fun _ _ ⟨h, k⟩ => ⟨h, drawn_below k⟩)
theorem next_c (s n o i : Int) (w : World) (s0 : 0 ≤ s) (s1 : s < 4294967296) (o0 : 0 ≤ o) (o1 : o < 256) (i0 : 0 ≤ i) (i1 : i < 256) :
    Calls Try.prog 35 #[.int .u32 s, .int .i64 n, .int .u8 o, .int .u8 i] w (Tells w (Is (.int .u32 (next s n o i)))) := by
  have ha := and16 s s0 s1
  go_enter Try.func35, Try.ntmps35
  go_wp2_with fail
  refine (make16_c _ _ _ (by omega) (by omega)).mono ?_
  rintro e w' ⟨_, rfl, rfl, hg⟩
  go_wp2
  go_ret
  refine ⟨_, rfl, ?_, hg⟩
  simp only [Is]
  simp
  have := mul_mod16 n o
  unfold next
  omega
theorem w64 {x : Int} (h : -9223372036854775808 ≤ x) (k : x ≤ 9223372036854775807) : wrap64 x = x := by unfold wrap64; omega
end Go.Proofs.Ytaeobiilihklhaa.F
