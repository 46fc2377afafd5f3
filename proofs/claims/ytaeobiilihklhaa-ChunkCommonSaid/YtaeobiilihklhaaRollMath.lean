/- Plain laws of the weak sum: how a state goes on over bytes, two pieces together, the 16-bit halves. No program in sight. -/
import Derived.Laws.BitsLemmas
import Derived.RowKit
namespace Go.Proofs.YtaeobiilihklhaaM
open Go Go.RowKit

def st (s : Int × Int) (c : Int) : Int × Int := (s.1 + c, s.2 + (s.1 + c))
def AB (s : Int × Int) (l : List Int) : Int × Int := l.foldl st s
def weakOf (s : Int × Int) : Int := s.1 % 65536 + 65536 * (s.2 % 65536)
def weak (l : List Int) : Int := weakOf (AB (0, 0) l)

theorem obs {α β : Type} (a : α) (f : α → Option β) : (some a).bind f = f a := by cases h : f a <;> simp [h]
theorem u32_wraps (n : Int) (h₀ : 0 ≤ n) (h₁ : n < 2 ^ 32) : IntKind.u32.wrap n = n := by rw [IntKind.wrap_u32]; omega
theorem and16 (x : Int) (h0 : 0 ≤ x) (h1 : x < 4294967296) : Go.bits .and .u32 x 65535 = x % 65536 :=
  bits_mask .u32 32 (by decide) u32_wraps 16 (by decide) x h0 h1
theorem or16 (x y : Int) (h0 : 0 ≤ x) (h1 : x < 65536) (y0 : 0 ≤ y) (y1 : y < 4294967296) (hy : y % 65536 = 0) : Go.bits .or .u32 x y = x + y := by
  have h := bits_join .u32 32 (by decide) u32_wraps 16 y x y0 (by omega) (by omega) h0 (by omega) (by omega)
  rw [show Go.bits .or .u32 x y = Go.bits .or .u32 y x from ?_, h]; · omega
  unfold Go.bits; simp only [BitVec.or_comm]
theorem make16_eq (a b : Int) (a0 : 0 ≤ a) (a1 : a < 4294967296) :
    Go.bits .or .u32 (Go.bits .and .u32 a 65535) ((b * 65536) % 4294967296) = a % 65536 + 65536 * (b % 65536) := by
  rw [and16 a a0 a1, or16 _ _ (by omega) (by omega) (by omega) (by omega) (by omega)]; omega
theorem AB_append (s : Int × Int) (l m : List Int) : AB s (l ++ m) = AB (AB s l) m := by simp [AB]
theorem AB_shift (s : Int × Int) (l : List Int) : AB s l = (s.1 + (AB (0,0) l).1, s.2 + l.length * s.1 + (AB (0,0) l).2) := by
  induction l generalizing s with
  | nil => simp [AB]
  | cons c l ih =>
    have e1 : AB s (c :: l) = AB (st s c) l := rfl
    have e2 : AB (0,0) (c :: l) = AB (st (0,0) c) l := rfl
    rw [e1, e2, ih (st s c), ih (st (0,0) c)]
    simp only [st, List.length_cons, Int.natCast_add, Int.natCast_one, Int.add_mul, Int.mul_add]
    simp only [Prod.mk.injEq]; constructor <;> (try simp) <;> omega
theorem weakOf_congr {s t : Int × Int} (h1 : s.1 % 65536 = t.1 % 65536) (h2 : s.2 % 65536 = t.2 % 65536) : weakOf s = weakOf t := by
  unfold weakOf; rw [h1, h2]
theorem weakOf_range (s : Int × Int) : 0 ≤ weakOf s ∧ weakOf s < 4294967296 := by unfold weakOf; omega
theorem weakOf_lo (s : Int × Int) : weakOf s % 65536 = s.1 % 65536 := by unfold weakOf; omega
theorem weakOf_hi (s : Int × Int) : weakOf s / 65536 = s.2 % 65536 := by unfold weakOf; omega
theorem weak_append (l m : List Int) : weak (l ++ m) = weakOf ((AB (0,0) l).1 + (AB (0,0) m).1, (AB (0,0) l).2 + m.length * (AB (0,0) l).1 + (AB (0,0) m).2) := by
  unfold weak; rw [AB_append, AB_shift]
theorem mul_congr16 (n p q : Int) (h : p % 65536 = q % 65536) : (n * p) % 65536 = (n * q) % 65536 := by rw [Int.mul_emod, h, ← Int.mul_emod]
theorem u64_wrap (n : Int) : IntKind.u64.wrap n = n % 18446744073709551616 := by simp [IntKind.wrap, IntKind.bits, IntKind.signed]
theorem mul_mod16 (n o : Int) : (n % 4294967296 * o) % 65536 = (n * o) % 65536 := by
  rw [Int.mul_comm, mul_congr16 o (n % 4294967296) n (by omega), Int.mul_comm]
def join (x y size : Int) : Int := (x % 65536 + y % 65536) % 65536 + 65536 * ((x / 65536 + y / 65536 + size * (x % 65536)) % 65536)
theorem join_range (x y size : Int) : 0 ≤ join x y size ∧ join x y size < 4294967296 := by unfold join; omega
theorem weak_range (l : List Int) : 0 ≤ weak l ∧ weak l < 4294967296 := weakOf_range _
theorem join_weak (l m : List Int) : join (weak l) (weak m) m.length = weak (l ++ m) := by
  rw [weak_append]
  unfold join weak
  rw [weakOf_lo, weakOf_lo, weakOf_hi, weakOf_hi]
  unfold weakOf
  have := mul_congr16 m.length ((AB (0,0) l).1 % 65536) (AB (0,0) l).1 (by omega)
  simp only
  omega
/-- the sum of the window that is one on -/
def next (s n o i : Int) : Int := (s % 65536 - o + i) % 65536 + 65536 * ((s / 65536 - n * o + (s % 65536 - o + i)) % 65536)
theorem next_range (s n o i : Int) : 0 ≤ next s n o i ∧ next s n o i < 4294967296 := by unfold next; omega
theorem AB_cons (c : Int) (l : List Int) : AB (0,0) (c :: l) = (c + (AB (0,0) l).1, c + l.length * c + (AB (0,0) l).2) := by
  rw [show AB (0, 0) (c :: l) = AB (st (0,0) c) l from rfl, AB_shift]; simp [st]
theorem AB_snoc (c : Int) (l : List Int) : AB (0,0) (l ++ [c]) = ((AB (0,0) l).1 + c, (AB (0,0) l).2 + ((AB (0,0) l).1 + c)) := by
  rw [AB_append]; rfl
/-- the window goes on by one byte -/
theorem next_weak (o i : Int) (l : List Int) : next (weak (o :: l)) (l.length + 1) o i = weak (l ++ [i]) := by
  unfold next weak
  rw [weakOf_lo, weakOf_hi, AB_cons, AB_snoc]
  unfold weakOf
  simp only
  have : ((l.length : Int) + 1) * o = l.length * o + o := by rw [Int.add_mul]; omega
  rw [this]
  omega
/-- element i, opaque to simp -/
def byteAt (l : List Int) (i : Nat) : Int := l.getD i 0
theorem byteAt_eq (l : List Int) (i : Nat) (h : i < l.length) : byteAt l i = l[i] := by simp [byteAt, h]
theorem byteAt_mem {l : List Int} {i : Nat} (h : i < l.length) : byteAt l i ∈ l := by rw [byteAt_eq l i h]; exact List.getElem_mem h
theorem window_step (l : List Int) (n j : Nat) (h1 : 1 ≤ n) (h : n + j < l.length) :
    next (weak ((l.drop j).take n)) n (byteAt l j) (byteAt l (n + j)) = weak ((l.drop (j + 1)).take n) := by
  obtain ⟨m, rfl⟩ : ∃ m, n = m + 1 := ⟨n - 1, by omega⟩
  rw [byteAt_eq l j (by omega), byteAt_eq l (m + 1 + j) h]
  have e1 : (l.drop j).take (m + 1) = l[j] :: (l.drop (j + 1)).take m := by
    rw [List.drop_eq_getElem_cons (by omega), List.take_succ_cons]
  have e2 : (l.drop (j + 1)).take (m + 1) = (l.drop (j + 1)).take m ++ [l[m + 1 + j]] := by
    rw [List.take_succ_eq_append_getElem (by simp; omega)]
    simp only [List.getElem_drop]
    congr 3; omega
  have e3 : ((l.drop (j + 1)).take m).length = m := by simp; omega
  rw [e1, e2]
  have := next_weak l[j] l[m + 1 + j] ((l.drop (j + 1)).take m)
  rw [e3] at this
  rw [← this]
  congr 1
theorem turned_split (l : List Int) (n : Nat) (h : n + 1 < l.length) : l = l.take n ++ (byteAt l n :: byteAt l (n + 1) :: l.drop (n + 2)) := by
  rw [byteAt_eq l n (by omega), byteAt_eq l (n + 1) h]
  rw [← List.drop_eq_getElem_cons h, ← List.drop_eq_getElem_cons (by omega), List.take_append_drop]
theorem turned_set (l : List Int) (n : Nat) (h : n + 1 < l.length) (p q : Int) : (l.set n q).set (n + 1) p = l.take n ++ (q :: p :: l.drop (n + 2)) := by
  refine List.ext_getElem (by simp; omega) fun i h1 h2 => ?_
  rw [List.getElem_set, List.getElem_set]
  rcases Nat.lt_trichotomy i n with hlt | rfl | hgt
  · rw [if_neg (by omega), if_neg (by omega), List.getElem_append_left (by simp; omega), List.getElem_take]
  · rw [if_neg (by omega), if_pos rfl, List.getElem_append_right (by simp; omega)]
    simp [Nat.min_eq_left (by omega : i ≤ l.length)]
  · rw [List.getElem_append_right (by simp; omega)]
    simp only [List.length_take, Nat.min_eq_left (by omega : n ≤ l.length)]
    by_cases e : i = n + 1
    · subst e; rw [if_pos rfl]; simp
    · rw [if_neg (by omega), if_neg (by omega)]
      obtain ⟨k, rfl⟩ : ∃ k, i = n + 2 + k := ⟨i - (n + 2), by omega⟩
      simp [show n + 2 + k - n = k + 2 from by omega]
theorem turned_bytes (l : List Int) (n : Nat) (h : n + 1 < l.length) (hb : ∀ x ∈ l, 0 ≤ x ∧ x < 256) {m : List Int} (hm : m = (l.set n (byteAt l (n + 1))).set (n + 1) (byteAt l n)) : ∀ x ∈ m, 0 ≤ x ∧ x < 256 := by
  rw [hm, turned_set l n h]
  intro x hx
  rcases List.mem_append.1 hx with hx | hx
  · exact hb x (List.mem_of_mem_take hx)
  · rcases List.mem_cons.1 hx with rfl | hx
    · exact hb _ (byteAt_mem h)
    · rcases List.mem_cons.1 hx with rfl | hx
      · exact hb _ (byteAt_mem (by omega))
      · exact hb x (List.mem_of_mem_drop hx)
/-- two bytes side by side, exchanged -/
theorem turned_law (l : List Int) (n : Nat) (h : n + 1 < l.length) (hb : ∀ x ∈ l, 0 ≤ x ∧ x < 256) {m : List Int} (hm : m = (l.set n (byteAt l (n + 1))).set (n + 1) (byteAt l n)) :
    weak m % 65536 = weak l % 65536 ∧ (((weak m / 65536) - (weak l / 65536)) % 4294967296) % 65536 = ((byteAt l (n + 1) - byteAt l n) % 4294967296) % 65536 ∧ (weak l == weak m) = (byteAt l n == byteAt l (n + 1)) := by
  have b1 := hb _ (byteAt_mem (l := l) (i := n) (by omega))
  have b2 := hb _ (byteAt_mem h)
  have el := turned_split l n h
  rw [turned_set l n h] at hm
  generalize byteAt l n = p at *
  generalize byteAt l (n + 1) = q at *
  generalize l.take n = a at *
  generalize l.drop (n + 2) = z at *
  subst hm
  rw [el]
  rw [weak_append, weak_append, AB_cons, AB_cons, AB_cons, AB_cons]
  simp only [List.length_cons]
  have e1 : (((z.length + 1 : Nat) : Int)) * q = z.length * q + q := by rw [Int.natCast_add, Int.add_mul]; omega
  have e2 : (((z.length + 1 : Nat) : Int)) * p = z.length * p + p := by rw [Int.natCast_add, Int.add_mul]; omega
  rw [e1, e2]
  unfold weakOf
  simp only
  generalize (z.length : Int) * q = u
  generalize (z.length : Int) * p = v
  generalize ((z.length + 1 + 1 : Nat) : Int) * (AB (0,0) a).1 = t
  generalize (AB (0,0) a).1 = a1
  generalize (AB (0,0) a).2 = a2
  generalize (AB (0,0) z).1 = z1
  generalize (AB (0,0) z).2 = z2
  refine ⟨by omega, by omega, ?_⟩
  rw [Bool.eq_iff_iff]
  simp only [beq_iff_eq]
  omega
end Go.Proofs.YtaeobiilihklhaaM
