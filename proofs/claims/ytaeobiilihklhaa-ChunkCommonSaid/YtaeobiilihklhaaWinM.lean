/- Plain laws of a ring of bytes: the last bytes of what was put in, and where they lie. No program in sight. -/
import Derived.Test.YtaeobiilihklhaaRollMath
namespace Go.Proofs.YtaeobiilihklhaaM
open Go Go.RowKit
/-- the last so many -/
def lastL (n : Nat) (s : List Int) : List Int := s.drop (s.length - n)
theorem lastL_len (n : Nat) (s : List Int) : (lastL n s).length ≤ n := by simp [lastL]; omega
theorem lastL_short {n : Nat} {s : List Int} (h : s.length ≤ n) : lastL n s = s := by simp [lastL, Nat.sub_eq_zero_of_le h]
theorem lastL_full {n : Nat} {s : List Int} (c : Int) (h : s.length = n) (hn : 0 < n) : lastL n (s ++ [c]) = s.drop 1 ++ [c] := by
  unfold lastL
  rw [List.length_append, List.length_singleton, show s.length + 1 - n = 1 from by omega, List.drop_append_of_le_length (by omega)]
theorem lastL_last (n : Nat) (s m : List Int) : lastL n (lastL n s ++ m) = lastL n (s ++ m) := by
  unfold lastL
  simp only [List.length_append, List.length_drop, List.drop_append, List.drop_drop]
  congr 1
  · congr 1; omega
  · congr 1; omega
theorem ring_mod {a i n : Nat} (ha : a < n) (hi : i ≤ n) : (a + i) % n = if a + i < n then a + i else a + i - n := by
  split
  · exact Nat.mod_eq_of_lt ‹_›
  · rw [Nat.mod_eq_sub_mod (by omega), Nat.mod_eq_of_lt (by omega)]
/-- the ring b, from place a on, has the bytes s -/
structure Ring (b : List Int) (a : Nat) (s : List Int) : Prop where
  len : s.length ≤ b.length
  lt : a < b.length
  at_ : ∀ i, i < s.length → b.getD ((a + i) % b.length) 0 = s.getD i 0
theorem Ring.nil {b : List Int} (h : 0 < b.length) : Ring b 0 [] := ⟨by simp, h, fun i hi => by simp at hi⟩
theorem Ring.room {b : List Int} {a : Nat} {s : List Int} (h : Ring b a s) (hr : s.length < b.length) (c : Int) : Ring (b.set ((a + s.length) % b.length) c) a (s ++ [c]) := by
  obtain ⟨h1, h2, h3⟩ := h
  refine ⟨by simp; omega, by simpa using h2, fun i hi => ?_⟩
  simp only [List.length_set]
  have hlt : (a + s.length) % b.length < b.length := Nat.mod_lt _ (by omega)
  rcases Nat.lt_or_ge i s.length with hi' | hi'
  · have := h3 i hi'
    have hne : (a + s.length) % b.length ≠ (a + i) % b.length := by
      rw [ring_mod h2 (by omega), ring_mod h2 (by omega)]
      split <;> split <;> omega
    simp only [List.getD_eq_getElem?_getD, List.getElem?_set_ne hne, List.getElem?_append_left hi'] at this ⊢
    exact this
  · obtain rfl : i = s.length := by simp at hi; omega
    simp [List.getD_eq_getElem?_getD, List.getElem?_set_self hlt]
theorem Ring.full {b : List Int} {a : Nat} {s : List Int} (h : Ring b a s) (hr : s.length = b.length) (c : Int) : Ring (b.set a c) ((a + 1) % b.length) (s.drop 1 ++ [c]) := by
  obtain ⟨h1, h2, h3⟩ := h
  have hm : (a + 1) % b.length < b.length := Nat.mod_lt _ (by omega)
  refine ⟨by simp; omega, by simpa using hm, fun i hi => ?_⟩
  simp only [List.length_set]
  simp only [List.length_append, List.length_drop, List.length_singleton] at hi
  have em : ((a + 1) % b.length + i) % b.length = (a + (i + 1)) % b.length := by
    rw [Nat.mod_add_mod]; congr 1; omega
  rw [em]
  rcases Nat.lt_or_ge (i + 1) s.length with hi' | hi'
  · have := h3 (i + 1) hi'
    have hne : a ≠ (a + (i + 1)) % b.length := by
      rw [ring_mod h2 (by omega)]
      split <;> omega
    simp only [List.getD_eq_getElem?_getD, List.getElem?_set_ne hne] at this ⊢
    rw [List.getElem?_append_left (by simp; omega), this]
    simp
  · obtain rfl : i = s.length - 1 := by omega
    have e : (a + (s.length - 1 + 1)) % b.length = a := by
      rw [ring_mod h2 (by omega)]
      split <;> omega
    rw [e]
    simp [List.getD_eq_getElem?_getD, List.getElem?_set_self h2]
theorem Ring.get0 {b : List Int} {a : Nat} {s : List Int} (h : Ring b a s) (hs : 0 < s.length) : b.getD a 0 = s.getD 0 0 := by
  have := h.at_ 0 hs
  rwa [Nat.add_zero, Nat.mod_eq_of_lt h.lt] at this
/-- the two ends of the ring, one behind the other -/
theorem Ring.cut {b : List Int} {a : Nat} {s : List Int} (h : Ring b a s) : (b.take (min (a + s.length) b.length)).drop a ++ b.take (s.length - (min (a + s.length) b.length - a)) = s := by
  obtain ⟨h1, h2, h3⟩ := h
  refine List.ext_getElem ?_ fun i hi1 hi2 => ?_
  · simp; omega
  · have := h3 i hi2
    rw [ring_mod h2 (by omega)] at this
    simp only [List.getD_eq_getElem?_getD, List.getElem?_eq_getElem hi2] at this
    rw [List.getElem_append]
    split
    · rename_i hl
      simp only [List.length_drop, List.length_take] at hl
      rw [if_pos (by omega)] at this
      simp only [List.getElem_drop, List.getElem_take]
      rw [List.getElem?_eq_getElem (by omega)] at this
      simpa using this
    · rename_i hl
      simp only [List.length_drop, List.length_take] at hl
      rw [if_neg (by omega)] at this
      simp only [List.length_drop, List.length_take, List.getElem_take]
      rw [List.getElem?_eq_getElem (by omega)] at this
      simp only [Option.getD_some] at this
      rw [← this]
      congr 1
      omega
theorem weak_put (s : List Int) (c : Int) : join (weak s) (c % 65536 + 65536 * (c % 65536)) 1 = weak (s ++ [c]) := by
  have e : weak [c] = c % 65536 + 65536 * (c % 65536) := by simp [weak, AB, st, weakOf]
  rw [← e, ← join_weak]; rfl
theorem weak_roll (s : List Int) (c : Int) (h : 0 < s.length) : next (weak s) s.length (s.getD 0 0) c = weak (s.drop 1 ++ [c]) := by
  cases s with
  | nil => simp at h
  | cons o l => simpa using next_weak o c l
end Go.Proofs.YtaeobiilihklhaaM
