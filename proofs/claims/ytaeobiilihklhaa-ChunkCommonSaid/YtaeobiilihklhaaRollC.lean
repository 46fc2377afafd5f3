/- What the functions of the package roll and of its reference come to, in closed form: each call returns the number that the plain law names, for all bytes. -/
import Derived.Test.YtaeobiilihklhaaF30
import Derived.Test.YtaeobiilihklhaaF31
import Derived.Test.YtaeobiilihklhaaRollMath
import Derived.Test.YtaeobiilihklhaaReg
namespace Go.Proofs.Ytaeobiilihklhaa.F
open Go Go.RowKit Go.Proofs.YtaeobiilihklhaaW.PrintWords Go.Proofs.YtaeobiilihklhaaW.PrintLast Go.Proofs.YtaeobiilihklhaaW.PrintMore Go.Proofs.YtaeobiilihklhaaM Go.Proofs.YtaeobiilihklhaaR
set_option linter.unusedSimpArgs false
set_option linter.unusedVariables false
theorem drawn_below {w w' : World} (h : Drawn0 w w') : Below w.heap.size w w' := h.below
theorem bytes_of {l : List Int} (h : ∀ x ∈ l, (Lit.int .u8 x).wf = true) : ∀ x ∈ l, 0 ≤ x ∧ x < 256 := by
  intro x hx
  have := h x hx
  simp [Lit.wf, IntKind.min, IntKind.max, IntKind.bits, IntKind.signed] at this
  omega
theorem make16_f (a b : Int) (a0 : 0 ≤ a) (a1 : a < 4294967296) : roll_make16.f a b = some (a % 65536 + 65536 * (b % 65536)) := by
  unfold roll_make16.f; rw [make16_eq a b a0 a1]
theorem make16_c (a b : Int) (w : World) (a0 : 0 ≤ a) (a1 : a < 4294967296) :
    Calls Try.prog 34 #[.int .u32 a, .int .u32 b] w (Tells w (Is (.int .u32 (a % 65536 + 65536 * (b % 65536))))) :=
  tells_is ((roll_make16.calls a b _ w (make16_f a b a0 a1)).mono fun _ _ ⟨h, k⟩ => ⟨h, drawn_below k⟩)
theorem rd_append (pre : List Int) (c : Int) (post : List Int) : rd (pre ++ c :: post) (pre.length : Int) = c := by
  unfold rd; simp [List.getD]
theorem sum_l0 (l : List Int) (hl : l.length ≤ 140737488351232) (hb : ∀ x ∈ l, 0 ≤ x ∧ x < 256) :
    ∀ (post pre : List Int) (x y : Int) (k : Nat), l = pre ++ post → post.length < k → 0 ≤ x → x < 4294967296 → 0 ≤ y → y < 4294967296 →
      roll_Sum.l0 k x y l (l.length : Int) (pre.length : Int) = some (weakOf (AB (x, y) post)) := by
  intro post
  induction post with
  | nil =>
    intro pre x y k h hk x0 x1 y0 y1
    obtain ⟨k, rfl⟩ : ∃ m, k = m + 1 := ⟨k - 1, by omega⟩
    have : pre.length = l.length := by simp [h]
    simp only [roll_Sum.l0]; rw [if_neg (by omega), make16_f _ _ x0 x1]; simp [weakOf, AB]
  | cons c post ih =>
    intro pre x y k h hk x0 x1 y0 y1
    obtain ⟨k, rfl⟩ : ∃ m, k = m + 1 := ⟨k - 1, by simp at hk; omega⟩
    have hlen : l.length = pre.length + (post.length + 1) := by simp [h]
    have hc : rd l (pre.length : Int) = c := by rw [h]; exact rd_append pre c post
    have hc2 := hb c (by simp [h])
    simp only [roll_Sum.l0]
    rw [if_pos (by omega), if_pos (by omega), if_pos (by omega), hc, show wrap64 ((pre.length : Int) + 1) = ((pre ++ [c]).length : Int) from by unfold wrap64; simp; omega]
    rw [ih (pre ++ [c]) _ _ k (by simp [h]) (by simp at hk; omega) (by omega) (by omega) (by omega) (by omega)]
    rw [show AB (x, y) (c :: post) = AB (st (x,y) c) post from rfl]
    rw [AB_shift, AB_shift (st (x,y) c)]
    congr 1; apply weakOf_congr
    · simp only [st]; omega
    · simp only [st]
      have := mul_congr16 post.length ((x + c % 4294967296) % 4294967296) (x + c) (by omega)
      omega
theorem sum_f (l : List Int) (hl : l.length ≤ 140737488351232) (hb : ∀ x ∈ l, 0 ≤ x ∧ x < 256) (k : Nat) (hk : l.length < k) : roll_Sum.f k l = some (weak l) := by
  unfold roll_Sum.f
  exact sum_l0 l hl hb l [] 0 0 k rfl hk (by omega) (by omega) (by omega) (by omega)
theorem sum_c (A : Option Addr) (c : Nat) (l : List Int) (w : World) (hr : Kd.C (Kd.int .u8) w A l.length l) (hc : l.length ≤ c) (hl : l.length ≤ 140737488351232) (hb : ∀ x ∈ l, 0 ≤ x ∧ x < 256) :
    Calls Try.prog 30 #[.slice A l.length c] w (Tells w (Is (.int .u32 (weak l)))) :=
  tells_is ((roll_Sum.calls (l.length + 1) A c l _ w hr hc (sum_f l hl hb _ (by omega))).mono fun _ _ ⟨h, k⟩ => ⟨h, drawn_below k⟩)

theorem str_size (l : List Int) : (strOfNums l).size = l.length := by
  unfold strOfNums; simp [ByteArray.size]
theorem bytesOf_str {l : List Int} (h : ∀ x ∈ l, 0 ≤ x ∧ x < 256) : bytesOf (strOfNums l) = l := by
  unfold bytesOf strOfNums
  simp only [List.map_map]
  refine List.ext_getElem (by simp) fun i h1 h2 => ?_
  have := h (l[i]) (List.getElem_mem _)
  simp [Function.comp]
  omega
theorem bt_byte (s : ByteArray) (i : Int) : 0 ≤ bt s i ∧ bt s i < 256 := by have := bt_range s i; omega
theorem bytesOf_byte (s : ByteArray) : ∀ x ∈ bytesOf s, 0 ≤ x ∧ x < 256 := by
  intro x hx
  obtain ⟨b, _, rfl⟩ := List.mem_map.1 hx
  have := b.toNat_lt
  omega
theorem rsum_l0 (s : ByteArray) (hs : s.size ≤ 140737488351232) :
    ∀ (post pre : List Int) (x y : Int) (k : Nat), bytesOf s = pre ++ post → post.length < k → 0 ≤ x → x < 18446744073709551616 → 0 ≤ y → y < 18446744073709551616 →
      strongroomref04_Sum.l0 k s x y (pre.length : Int) = some (weakOf (x + (AB (0,0) post).1, y + (AB (0,0) post).2)) := by
  intro post
  have hsl : (bytesOf s).length = s.size := bytesOf_length s
  induction post with
  | nil =>
    intro pre x y k h hk x0 x1 y0 y1
    obtain ⟨k, rfl⟩ : ∃ m, k = m + 1 := ⟨k - 1, by omega⟩
    have : pre.length = s.size := by rw [← hsl, h]; simp
    simp only [strongroomref04_Sum.l0]; rw [if_neg (by omega), Int.tmod_eq_emod_of_nonneg x0, Int.tmod_eq_emod_of_nonneg y0]
    simp only [u64_wrap, weakOf, AB, List.foldl_nil, Int.add_zero]
    congr 1
    omega
  | cons c post ih =>
    intro pre x y k h hk x0 x1 y0 y1
    obtain ⟨k, rfl⟩ : ∃ m, k = m + 1 := ⟨k - 1, by simp at hk; omega⟩
    have hlen : s.size = pre.length + (post.length + 1) := by rw [← hsl, h]; simp
    have hc : bt s (pre.length : Int) = c := by rw [← rd_bytesOf, h]; exact rd_append pre c post
    have hc2 := bt_byte s (pre.length : Int)
    rw [hc] at hc2
    simp only [strongroomref04_Sum.l0]
    rw [if_pos (by omega), if_pos (by omega), hc, show wrap64 ((pre.length : Int) + 1) = ((pre ++ [c]).length : Int) from by unfold wrap64; simp; omega]
    simp only [u64_wrap]
    rw [ih (pre ++ [c]) _ _ k (by simp [h]) (by simp at hk; omega) (by omega) (by omega) (by omega) (by omega)]
    rw [show AB (0, 0) (c :: post) = AB (st (0,0) c) post from rfl, AB_shift (st (0,0) c)]
    congr 1; apply weakOf_congr
    · simp only [st]; omega
    · simp only [st]
      have e : wrap64 ((s.size : Int) - (pre.length : Int)) = (post.length : Int) + 1 := by unfold wrap64; omega
      rw [e, show c % 18446744073709551616 = c from by omega, show ((post.length : Int) + 1) % 18446744073709551616 = (post.length : Int) + 1 from by omega]
      have : c * ((post.length : Int) + 1) = (post.length : Int) * c + c := by rw [Int.mul_add, Int.mul_comm]; omega
      rw [this]
      simp only [Int.zero_add]
      omega
theorem rsum_f (s : ByteArray) (hs : s.size ≤ 140737488351232) (k : Nat) (hk : s.size < k) : strongroomref04_Sum.f k s = some (weak (bytesOf s)) := by
  unfold strongroomref04_Sum.f
  have := rsum_l0 s hs (bytesOf s) [] 0 0 k rfl (by rw [bytesOf_length]; exact hk) (by omega) (by omega) (by omega) (by omega)
  simpa [weak] using this
theorem rsum_c (s : ByteArray) (w : World) (hs : s.size ≤ 140737488351232) :
    Calls Try.prog 31 #[.string s] w (Tells w (Is (.int .u32 (weak (bytesOf s))))) :=
  tells_is ((strongroomref04_Sum.calls (s.size + 1) s _ w (rsum_f s hs _ (by omega))).mono fun _ _ ⟨h, k⟩ => ⟨h, drawn_below k⟩)
end Go.Proofs.Ytaeobiilihklhaa.F
