/- What Get of the package num and of its reference come to: the same number, place and error, for all bytes and places. -/
import Derived.Test.YtoolcamnmefpgaaNumC
namespace Go.Proofs.Ytoolcamnmefpgaa.F
open Go Go.RowKit Go.Proofs.YtoolcamnmefpgaaW.PrintWords Go.Proofs.YtoolcamnmefpgaaW.PrintLast Go.Proofs.YtoolcamnmefpgaaW.PrintMore Go.Proofs.YtoolcamnmefpgaaM Go.Proofs.YtoolcamnmefpgaaR
set_option linter.unusedSimpArgs false
set_option linter.unusedVariables false
theorem u64_wraps (n : Int) (h₀ : 0 ≤ n) (h₁ : n < 2 ^ 64) : IntKind.u64.wrap n = n := by rw [u64_wrap]; omega
theorem pow7 (i : Nat) : (128 : Int) ^ i = 2 ^ (7 * i) := by rw [Int.pow_mul]; rfl
theorem pow_small (i : Nat) (h : i ≤ 8) : (128 : Int) ^ i * 128 ≤ 9223372036854775808 := by
  have : 128 ^ (i + 1) ≤ 128 ^ 9 := Nat.pow_le_pow_right (by decide) (by omega)
  rw [← Int.pow_succ]
  have e : (128 : Nat) ^ 9 = 9223372036854775808 := by decide
  rw [e] at this
  have h2 : ((128 ^ (i + 1) : Nat) : Int) ≤ ((9223372036854775808 : Nat) : Int) := Int.ofNat_le.2 this
  rw [Int.natCast_pow] at h2
  exact h2
theorem pow_nine (i : Nat) (h : i ≤ 9) : (128 : Int) ^ i ≤ 9223372036854775808 := by
  rcases Nat.lt_or_ge i 9 with h' | h'
  · have := pow_small i (by omega)
    have : 0 < (128 : Int) ^ i := Int.pow_pos (by decide)
    omega
  · have : i = 9 := by omega
    subst this
    decide
theorem pow_pos (i : Nat) : 0 < (128 : Int) ^ i := Int.pow_pos (by decide)
theorem or_comm64 (x y : Int) : Go.bits .or .u64 x y = Go.bits .or .u64 y x := by
  unfold Go.bits; simp only [BitVec.or_comm]
theorem or_shl (acc x : Int) (i : Nat) (hi : i ≤ 9) (h0 : 0 ≤ acc) (h1 : acc < 128 ^ i) (x0 : 0 ≤ x) (x1 : x < 128) (x9 : i = 9 → x ≤ 1) :
    Go.bits .or .u64 acc (shl .u64 (IntKind.u64.wrap x) (wrap64 (7 * (i : Int)))) = acc + x * 128 ^ i := by
  have hlt : x * 128 ^ i < 18446744073709551616 := by
    rcases Nat.lt_or_ge i 9 with h | h
    · have := pow_small i (by omega)
      have h2 : x * 128 ^ i ≤ 128 * 128 ^ i := Int.mul_le_mul_of_nonneg_right (by omega) (Int.le_of_lt (pow_pos i))
      omega
    · have : i = 9 := by omega
      subst this
      have := x9 rfl
      have h2 : x * (128 : Int) ^ 9 ≤ 1 * 128 ^ 9 := Int.mul_le_mul_of_nonneg_right (by omega) (by decide)
      have h3 : (1 : Int) * 128 ^ 9 = 9223372036854775808 := by decide
      omega
  have hge : 0 ≤ x * 128 ^ i := Int.mul_nonneg x0 (Int.le_of_lt (pow_pos i))
  have e1 : shl .u64 (IntKind.u64.wrap x) (wrap64 (7 * (i : Int))) = x * 128 ^ i := by
    unfold shl
    rw [w64 (by omega) (by omega), u64_wraps x x0 (by omega)]
    have : min ((7 * (i : Int)).toNat) (IntKind.bits .u64) = 7 * i := by
      have : IntKind.bits .u64 = 64 := rfl
      omega
    rw [this, ← pow7, u64_wraps _ hge hlt]
  rw [e1, or_comm64]
  have hp : (128 : Int) ^ i = 2 ^ (7 * i) := pow7 i
  have := bits_join .u64 64 (by decide) u64_wraps (7 * i) (x * 128 ^ i) acc hge (by rw [hp, Int.mul_emod_left]) hlt h0 (by rw [← hp]; exact h1) (by
    have := pow_nine i hi
    omega)
  rw [this]; omega
theorem and127 (x : Int) (h0 : 128 ≤ x) (h1 : x < 256) : Go.bits .and .u8 x 127 = x - 128 := by
  have := bits_mask .u8 8 (by decide) wraps_u8 7 (by decide) x (by omega) (by omega)
  rw [show ((2 : Int) ^ 7 - 1) = 127 from by decide, show ((2 : Int) ^ 7) = 128 from by decide] at this
  rw [this]; omega
/-- how a call ends -/
def endOf (at_ : Int) (r : Int × Int × Int) : Int × Int × Int := if r.2.2 = 0 then (r.1, at_ + r.2.1, 0) else (0, 0, r.2.2)
theorem rd_at (l : List Int) (i : Nat) (h : i < l.length) : rd l (i : Int) = l[i] := by unfold rd; simp [h]
theorem get_l0 (l : List Int) (hl : l.length ≤ 140737488351232) (hb : ∀ x ∈ l, 0 ≤ x ∧ x < 256) (at_ : Nat) : ∀ (f k i : Nat) (acc : Int), f < k → i + f = 10 → at_ + i ≤ l.length → (f = 0 ∨ (0 ≤ acc ∧ acc < 128 ^ i)) →
    num_Get.l0 k l (at_ : Int) acc (i : Int) = some (endOf at_ (getS f (l.drop (at_ + i)) acc (128 ^ i)))
  | 0, k, i, acc, hk, hi, _, _ => by
    obtain ⟨k, rfl⟩ : ∃ m, k = m + 1 := ⟨k - 1, by omega⟩
    simp only [num_Get.l0]
    rw [if_neg (by omega)]
    simp [getS, endOf]
  | f + 1, k, i, acc, hk, hi, hat, hacc => by
    obtain ⟨k, rfl⟩ : ∃ m, k = m + 1 := ⟨k - 1, by omega⟩
    have hacc := hacc.resolve_left (by omega)
    simp only [num_Get.l0]
    rw [if_pos (by omega), w64 (x := (at_ : Int) + (i : Int)) (by omega) (by omega)]
    by_cases he : at_ + i = l.length
    · rw [if_pos (by omega), List.drop_of_length_le (by omega)]
      simp [getS, endOf]
    · rw [if_neg (by omega), if_pos (by omega), if_pos (by omega)]
      have hlt : at_ + i < l.length := by omega
      have hr : rd l ((at_ : Int) + (i : Int)) = l[at_ + i] := by
        rw [show (at_ : Int) + (i : Int) = ((at_ + i : Nat) : Int) from by omega]; exact rd_at l _ hlt
      rw [hr, List.drop_eq_getElem_cons hlt]
      have hx := hb l[at_ + i] (List.getElem_mem hlt)
      generalize l[at_ + i] = x at *
      simp only [getS]
      rw [w64 (x := (at_ : Int) + (i : Int) + 1) (by omega) (by omega)]
      by_cases h1 : x < 128
      · rw [if_pos h1, if_pos h1]
        have hfin : (i = 9 → x ≤ 1) → (some (Go.bits .or .u64 acc (shl .u64 (IntKind.u64.wrap x) (wrap64 (7 * (i : Int)))), (at_ : Int) + (i : Int) + 1, (0 : Int)) : Option (Int × Int × Int)) = some (endOf at_ (acc + x * 128 ^ i, 10 - (f : Int), 0)) := by
          intro h9
          rw [or_shl acc x i (by omega) hacc.1 hacc.2 hx.1 h1 h9]
          simp only [endOf, if_true]
          congr 3
          omega
        have h7 : 0 ≤ wrap64 (7 * (i : Int)) := by rw [w64 (by omega) (by omega)]; omega
        by_cases h2 : x = 0
        · rw [if_pos h2]
          by_cases h3 : (i : Int) > 0
          · rw [if_pos h3, if_pos (by left; omega)]; simp [endOf]
          · rw [if_neg h3, if_neg (by omega), if_pos h7, if_neg (by omega)]; exact hfin (by omega)
        · rw [if_neg h2]
          by_cases h3 : (i : Int) = 9
          · rw [if_pos h3]
            by_cases h4 : x > 1
            · rw [if_pos h4, if_pos (by right; omega)]; simp [endOf]
            · rw [if_neg h4, if_pos h7, if_neg (by omega)]; exact hfin (by omega)
          · rw [if_neg h3, if_pos h7, if_neg (by omega)]; exact hfin (by omega)
      · rw [if_neg h1, if_neg h1, if_pos (by rw [w64 (by omega) (by omega)]; omega), w64 (x := (i : Int) + 1) (by omega) (by omega)]
        rw [show (i : Int) + 1 = ((i + 1 : Nat) : Int) from by omega]
        rw [and127 x (by omega) hx.2]
        rw [get_l0 l hl hb at_ f k (i + 1) _ (by omega) (by omega) (by omega) ?_]
        · rw [show at_ + (i + 1) = at_ + i + 1 from by omega, Int.pow_succ]
          rcases Nat.eq_zero_or_pos f with rfl | hf
          · simp [getS]
          · rw [or_shl acc (x - 128) i (by omega) hacc.1 hacc.2 (by omega) (by omega) (by omega)]
        · rcases Nat.eq_zero_or_pos f with rfl | hf
          · left; rfl
          · right
            rw [or_shl acc (x - 128) i (by omega) hacc.1 hacc.2 (by omega) (by omega) (by omega), Int.pow_succ]
            have h2 : (x - 128) * 128 ^ i ≤ 127 * 128 ^ i := Int.mul_le_mul_of_nonneg_right (by omega) (Int.le_of_lt (pow_pos i))
            have h3 : 0 ≤ (x - 128) * 128 ^ i := Int.mul_nonneg (by omega) (Int.le_of_lt (pow_pos i))
            omega
theorem get_f (l : List Int) (hl : l.length ≤ 140737488351232) (hb : ∀ x ∈ l, 0 ≤ x ∧ x < 256) (a : Int) (k : Nat) (hk : 12 ≤ k) : num_Get.f k l a = some (getL l a) := by
  obtain ⟨k, rfl⟩ : ∃ m, k = m + 1 := ⟨k - 1, by omega⟩
  unfold num_Get.f getL
  by_cases h1 : a < 0
  · rw [if_pos h1, if_pos (.inl h1)]; simp only [num_Get.j0, if_true]
  rw [if_neg h1]
  by_cases h2 : a > (l.length : Int)
  · rw [decide_eq_true h2, if_pos (.inr h2)]; simp only [num_Get.j0, if_true]
  rw [decide_eq_false h2, if_neg (by omega)]
  simp only [num_Get.j0]
  rw [if_neg (by simp)]
  obtain ⟨n, rfl⟩ := Int.eq_ofNat_of_zero_le (show 0 ≤ a by omega)
  have := get_l0 l hl hb n 10 k 0 0 (by omega) (by omega) (by omega) (.inr ⟨by omega, by simp⟩)
  rw [show ((0 : Nat) : Int) = 0 from rfl] at this
  rw [this]
  simp [endOf]
theorem get_c (A : Option Addr) (c : Nat) (l : List Int) (a : Int) (w : World) (hr : Kd.C (Kd.int .u8) w A l.length l) (hc : l.length ≤ c) (hl : l.length ≤ 140737488351232) (hb : ∀ x ∈ l, 0 ≤ x ∧ x < 256) :
    Calls Try.prog 15 #[.slice A l.length c, .int .i64 a] w (Tells w (Is (.tuple #[.int .u64 (getL l a).1, .int .i64 (getL l a).2.1, .int .i64 (getL l a).2.2]))) :=
  tells_is ((num_Get.calls 12 A c l a _ _ _ w hr hc (get_f l hl hb a 12 (by omega))).mono fun _ _ ⟨h, k⟩ => ⟨h, drawn_below k⟩)
theorem bt_at' (s : ByteArray) (i : Nat) (h : i < s.size) : bt s (i : Int) = (bytesOf s)[i]'(by rw [bytesOf_length]; exact h) := by
  rw [← rd_bytesOf]; exact rd_at _ _ (by rw [bytesOf_length]; exact h)
theorem bytesOf_byte (s : ByteArray) : ∀ x ∈ bytesOf s, 0 ≤ x ∧ x < 256 := by
  intro x hx
  obtain ⟨b, _, rfl⟩ := List.mem_map.1 hx
  have := b.toNat_lt
  omega
theorem rget_nine (s : ByteArray) (at_ i k : Nat) (acc x : Int) (r : List Int) (hx : 0 ≤ x ∧ x < 256) (hi : i = 9) (hback : wrap64 (wrap64 ((at_ : Int) + (i : Int)) + 1) = (at_ : Int) + (10 - ((0 : Nat) : Int)))
    (hval : (i = 9 → x ≤ 1) → x < 128 → IntKind.u64.wrap (acc + IntKind.u64.wrap (Int.tmod x 128 * 128 ^ i)) = acc + x * 128 ^ i) :
    strongroomref01_Get.j2 (k + 1) s (at_ : Int) acc (128 ^ i) (i : Int) x (x != 1) = some (endOf at_ (getS 1 (x :: r) acc (128 ^ i))) := by
  generalize (128 : Int) ^ i = u at *
  simp only [strongroomref01_Get.j2, getS]
  by_cases hx1 : x = 1
  · have h1 : x < 128 := by omega
    have hv := hval (by omega) h1
    rw [if_neg (by simp [hx1]), if_pos h1, if_neg (by omega), if_pos h1, if_neg (by omega), hv, hback]
    simp [endOf]
  · rw [if_pos (by simpa using hx1)]
    by_cases h1 : x < 128
    · rw [if_pos h1, if_pos ((Decidable.em (x = 0)).elim (fun h => .inl ⟨h, by decide⟩) (fun h => .inr ⟨trivial, by omega⟩))]; simp [endOf]
    · rw [if_neg h1]; simp [endOf]
theorem rget_lt (s : ByteArray) (at_ i k f : Nat) (acc x : Int) (r : List Int) (hf : f ≠ 0) (hi : i + (f + 1) = 10) (hx : 0 ≤ x ∧ x < 256) (h1 : x < 128) (hback : wrap64 (wrap64 ((at_ : Int) + (i : Int)) + 1) = (at_ : Int) + (10 - (f : Int)))
    (hv : IntKind.u64.wrap (acc + IntKind.u64.wrap (Int.tmod x 128 * 128 ^ i)) = acc + x * 128 ^ i) :
    strongroomref01_Get.j2 (k + 1) s (at_ : Int) acc (128 ^ i) (i : Int) x false = some (endOf at_ (getS (f + 1) (x :: r) acc (128 ^ i))) := by
  generalize (128 : Int) ^ i = u at *
  simp only [strongroomref01_Get.j2, getS]
  rw [if_neg (by simp), if_pos h1, if_pos h1]
  by_cases h2 : x = 0
  · rw [if_pos h2]
    by_cases h3 : (i : Int) > 0
    · rw [if_pos h3, if_pos (by left; omega)]; simp [endOf]
    · rw [if_neg h3, if_neg (by omega), hv, hback]; simp [endOf]
  · rw [if_neg h2, if_neg (by omega), hv, hback]; simp [endOf]
theorem rmore (acc x u : Int) (a0 : 0 ≤ acc) (a1 : acc < u) (hp : 0 < u) (hsm : u * 128 ≤ 9223372036854775808) (x0 : 128 ≤ x) (x1 : x < 256) :
    IntKind.u64.wrap (acc + IntKind.u64.wrap (Int.tmod x 128 * u)) = acc + (x - 128) * u ∧ 0 ≤ acc + (x - 128) * u ∧ acc + (x - 128) * u < u * 128 ∧ IntKind.u64.wrap (u * 128) = u * 128 := by
  have h2 : (x - 128) * u ≤ 127 * u := Int.mul_le_mul_of_nonneg_right (by omega) (by omega)
  have h3 : 0 ≤ (x - 128) * u := Int.mul_nonneg (by omega) (by omega)
  rw [Int.tmod_eq_emod_of_nonneg (by omega), show x % 128 = x - 128 from by omega]
  generalize (x - 128) * u = z at *
  rw [u64_wrap, u64_wrap, u64_wrap]
  omega
theorem rless (acc x u : Int) (a0 : 0 ≤ acc) (a1 : acc < u) (hp : 0 < u) (hsm : u * 128 ≤ 9223372036854775808 ∨ (u ≤ 9223372036854775808 ∧ x ≤ 1)) (x0 : 0 ≤ x) (x1 : x < 128) :
    IntKind.u64.wrap (acc + IntKind.u64.wrap (Int.tmod x 128 * u)) = acc + x * u := by
  have h3 : 0 ≤ x * u := Int.mul_nonneg (by omega) (by omega)
  have h2 : x * u ≤ 127 * u := Int.mul_le_mul_of_nonneg_right (by omega) (by omega)
  have h4 : x ≤ 1 → x * u ≤ 1 * u := fun h => Int.mul_le_mul_of_nonneg_right h (by omega)
  rw [Int.tmod_eq_emod_of_nonneg (by omega), show x % 128 = x from by omega]
  generalize x * u = z at *
  rw [u64_wrap, u64_wrap]
  rcases hsm with h | ⟨h, h'⟩
  · omega
  · have := h4 h'; omega
set_option maxHeartbeats 2000000 in
theorem rget_l0 (s : ByteArray) (hs : s.size ≤ 140737488351232) (at_ : Nat) : ∀ (f k i : Nat) (acc u : Int), 2 * f < k → i + f = 10 → at_ + i ≤ s.size → (f = 0 ∨ (0 ≤ acc ∧ acc < 128 ^ i ∧ u = 128 ^ i)) →
    strongroomref01_Get.l0 k s (at_ : Int) acc u (i : Int) = some (endOf at_ (getS f ((bytesOf s).drop (at_ + i)) acc (128 ^ i)))
  | 0, k, i, acc, u, hk, hi, _, _ => by
    obtain ⟨k, rfl⟩ : ∃ m, k = m + 1 := ⟨k - 1, by omega⟩
    simp only [strongroomref01_Get.l0]
    rw [if_neg (by omega)]
    simp [getS, endOf]
  | f + 1, k, i, acc, u, hk, hi, hat, hacc => by
    obtain ⟨k, rfl⟩ : ∃ m, k = m + 1 + 1 := ⟨k - 2, by omega⟩
    have hif : (i : Int) = 9 → f = 0 := by intro h; omega
    have hi9 : (i : Int) = 9 → i = 9 := by intro h; omega
    have hi8 : ¬ (i : Int) = 9 → i ≤ 8 := by intro h; omega
    have h9' : ¬ (i : Int) = 9 → f ≠ 0 := by intro h; omega
    have hi10 : i ≤ 9 := by omega
    have hk' : 2 * f < k := by omega
    have hi' : i + 1 + f = 10 := by omega
    have hw1 : wrap64 ((i : Int) + 1) = ((i + 1 : Nat) : Int) := by rw [w64 (by omega) (by omega)]; omega
    have hback : wrap64 (wrap64 ((at_ : Int) + (i : Int)) + 1) = (at_ : Int) + (10 - (f : Int)) := by rw [w64 (x := (at_ : Int) + (i : Int)) (by omega) (by omega), w64 (by omega) (by omega)]; omega
    have hw2 : wrap64 ((s.size : Int) - (at_ : Int)) = (s.size : Int) - (at_ : Int) := w64 (by omega) (by omega)
    have hw3 : wrap64 ((at_ : Int) + (i : Int)) = (at_ : Int) + (i : Int) := w64 (by omega) (by omega)
    obtain ⟨a0, a1, hu⟩ := hacc.resolve_left (by omega)
    subst hu
    have hsl := bytesOf_length s
    simp only [strongroomref01_Get.l0]
    rw [if_pos (by omega), hw2, hw3]
    by_cases he : at_ + i = s.size
    · rw [if_pos (by omega), List.drop_of_length_le (by omega)]
      simp [getS, endOf]
    · have hat' : at_ + (i + 1) ≤ s.size := by omega
      rw [if_neg (by omega), if_pos (by omega), if_pos (by omega)]
      have hlt : at_ + i < (bytesOf s).length := by omega
      have hr : bt s ((at_ : Int) + (i : Int)) = (bytesOf s)[at_ + i] := by
        rw [show (at_ : Int) + (i : Int) = ((at_ + i : Nat) : Int) from by omega]; exact bt_at' s _ (by omega)
      rw [hr, List.drop_eq_getElem_cons hlt]
      have hx := bytesOf_byte s _ (List.getElem_mem hlt)
      generalize (bytesOf s)[at_ + i] = x at *
      rw [show IntKind.u64.wrap x = x from by rw [u64_wrap]; omega]
      have hp := pow_pos i
      have hval : (i = 9 → x ≤ 1) → x < 128 → IntKind.u64.wrap (acc + IntKind.u64.wrap (Int.tmod x 128 * 128 ^ i)) = acc + x * 128 ^ i := by
        intro h9 hx1
        refine rless acc x _ a0 a1 hp ?_ hx.1 hx1
        rcases Nat.lt_or_ge i 9 with h | h
        · exact .inl (pow_small i (Nat.le_of_lt_succ h))
        · exact .inr ⟨pow_nine i hi10, h9 (Nat.le_antisymm hi10 h)⟩
      by_cases h9 : (i : Int) = 9
      · rw [if_pos h9]
        obtain rfl := hif h9
        exact rget_nine s at_ i k acc x _ hx (hi9 h9) hback hval
      · rw [if_neg h9]
        have hsm : i ≤ 8 := hi8 h9
        by_cases h1 : x < 128
        · have hv := hval (fun h => absurd (by rw [h]; rfl) h9) h1
          exact rget_lt s at_ i k f acc x _ (h9' h9) hi hx h1 hback hv
        · obtain ⟨m1, m2, m3, m4⟩ := rmore acc x _ a0 a1 hp (pow_small i hsm) (Int.not_lt.1 h1) hx.2
          simp only [strongroomref01_Get.j2, getS]
          rw [if_neg (by simp), if_neg h1, if_neg h1, m1, m4, hw1]
          rw [rget_l0 s hs at_ f k (i + 1) _ _ hk' hi' hat' (.inr ⟨m2, by rw [Int.pow_succ]; exact m3, by rw [Int.pow_succ]⟩)]
          rw [show at_ + (i + 1) = at_ + i + 1 from rfl, Int.pow_succ]
theorem rget_f (s : ByteArray) (hs : s.size ≤ 140737488351232) (a : Int) : strongroomref01_Get.f 24 s a = some (getL (bytesOf s) a) := by
  unfold strongroomref01_Get.f getL
  rw [bytesOf_length]
  by_cases h1 : a < 0
  · rw [if_pos h1, if_pos (.inl h1)]; simp only [strongroomref01_Get.j0, if_true]
  rw [if_neg h1]
  by_cases h2 : a > (s.size : Int)
  · rw [decide_eq_true h2, if_pos (.inr h2)]; simp only [strongroomref01_Get.j0, if_true]
  rw [decide_eq_false h2, if_neg (by omega)]
  simp only [strongroomref01_Get.j0]
  rw [if_neg (by simp)]
  obtain ⟨n, rfl⟩ := Int.eq_ofNat_of_zero_le (show 0 ≤ a by omega)
  have := rget_l0 s hs n 10 23 0 0 1 (by omega) (by omega) (by omega) (.inr ⟨by omega, by simp, by simp⟩)
  rw [show ((0 : Nat) : Int) = 0 from rfl] at this
  rw [this]
  simp [endOf]
theorem rget_c (s : ByteArray) (a : Int) (w : World) (hs : s.size ≤ 140737488351232) :
    Calls Try.prog 16 #[.string s, .int .i64 a] w (Tells w (Is (.tuple #[.int .u64 (getL (bytesOf s) a).1, .int .i64 (getL (bytesOf s) a).2.1, .int .i64 (getL (bytesOf s) a).2.2]))) :=
  tells_is ((strongroomref01_Get.calls 24 s a _ _ _ w (rget_f s hs a)).mono fun _ _ ⟨h, k⟩ => ⟨h, drawn_below k⟩)
end Go.Proofs.Ytoolcamnmefpgaa.F
