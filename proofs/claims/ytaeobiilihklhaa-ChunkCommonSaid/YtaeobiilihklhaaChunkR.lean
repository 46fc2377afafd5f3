/- What the reference of chapter 17 comes to: the same marks and the same chunks. -/
import Derived.Test.YtaeobiilihklhaaChunkD
import Derived.Test.YtaeobiilihklhaaF21
import Derived.Test.YtaeobiilihklhaaF14
import Derived.Test.YtaeobiilihklhaaF20
import Derived.Test.YtaeobiilihklhaaF12
namespace Go.Proofs.Ytaeobiilihklhaa.F
open Go Go.RowKit Go.Proofs.YtaeobiilihklhaaW.PrintWords Go.Proofs.YtaeobiilihklhaaW.PrintLast Go.Proofs.YtaeobiilihklhaaW.PrintMore Go.Proofs.YtaeobiilihklhaaM Go.Proofs.YtaeobiilihklhaaR
set_option linter.unusedSimpArgs false
set_option linter.unusedVariables false
theorem lmay_c (lo hi bits : Int) (w : World) : Calls Try.prog 12 #[.agg #[.int .i64 lo, .int .i64 hi, .int .i64 bits]] w (Tells w (Is (.bool (decide (mayM lo hi bits))))) := by
  refine tells_is ((strongroomlaw17_may.calls lo hi bits _ w ?_).mono fun _ _ ⟨h, k⟩ => ⟨h, k⟩)
  unfold strongroomlaw17_may.f strongroomref17_May.f
  by_cases h : mayM lo hi bits
  · rw [decide_eq_true h]
    obtain ⟨h1, h2, h3, h4, h5⟩ := h
    rw [if_pos h1, if_pos h2, if_pos h3, if_pos h4, decide_eq_true h5]; rfl
  · rw [decide_eq_false h]
    unfold mayM at h
    repeat' split
    all_goals first | rfl | (rw [decide_eq_false (by omega)]; rfl)
theorem str_extract (l : List Int) (a b : Nat) : (strOfNums l).extract a b = strOfNums ((l.take b).drop a) := by
  apply ByteArray.ext
  apply Array.ext'
  simp only [strOfNums, ByteArray.data_extract, Array.toList_extract, List.extract_eq_take_drop, List.map_drop, List.map_take, List.drop_take]
theorem last_f (s : List Int) (hs : s.length ≤ 100000) : strongroomref04_Last.f (strOfNums s) 16 = some (strOfNums (lastL 16 s)) := by
  unfold strongroomref04_Last.f
  rw [str_size]
  by_cases h : (s.length : Int) ≤ 16
  · rw [if_pos h, lastL_short (by omega)]
  · rw [if_neg h, w64 (by omega) (by omega), if_pos (by omega), if_pos (by omega), str_extract, List.take_of_length_le (Nat.le_refl _)]
    rw [show ((s.length : Int) - 16).toNat = s.length - 16 from by omega]
    rfl
theorem rmark_l0 (bits : Int) (B : Nat) (hB : B = min bits.toNat 32) : ∀ (r k : Nat) (x : Int), r ≤ B → 2 * r + 2 ≤ k → 0 ≤ x → x < 4294967296 → strongroomref17_Mark.l0 k bits x ((B - r : Nat) : Int) = some (decide (x < 2 ^ (32 - r)))
  | 0, k, x, hr, hk, h0, h1 => by
    obtain ⟨k, rfl⟩ : ∃ m, k = m + 2 := ⟨k - 2, by omega⟩
    simp only [strongroomref17_Mark.l0, strongroomref17_Mark.j1]
    have e : decide (x < 2 ^ (32 - 0)) = true := decide_eq_true (by simpa using h1)
    rw [e]
    by_cases hb : ((B - 0 : Nat) : Int) < bits
    · rw [if_pos hb, decide_eq_false (by omega)]; simp
    · rw [if_neg hb]; simp
  | r + 1, k, x, hr, hk, h0, h1 => by
    obtain ⟨k, rfl⟩ : ∃ m, k = m + 2 := ⟨k - 2, by omega⟩
    simp only [strongroomref17_Mark.l0, strongroomref17_Mark.j1]
    rw [if_pos (by omega), decide_eq_true (show ((B - (r + 1) : Nat) : Int) < 32 from by omega), if_pos rfl]
    have hp : (2 : Int) ^ (32 - r) = 2 * 2 ^ (32 - (r + 1)) := by
      rw [show 32 - r = (32 - (r + 1)) + 1 from by omega, Int.pow_succ, Int.mul_comm]
    have hle : (2 : Int) ^ (32 - (r + 1)) ≤ 2147483648 := by
      have : (2 : Nat) ^ (32 - (r + 1)) ≤ 2 ^ 31 := Nat.pow_le_pow_right (by omega) (by omega)
      have h2 : ((2 ^ (32 - (r + 1)) : Nat) : Int) ≤ ((2 ^ 31 : Nat) : Int) := by exact_mod_cast this
      simpa using h2
    by_cases hx : x ≥ 2147483648
    · rw [if_pos hx]
      congr 1
      exact (decide_eq_false (by omega)).symm
    · rw [if_neg hx, w64 (by omega) (by omega), show ((B - (r + 1) : Nat) : Int) + 1 = ((B - r : Nat) : Int) from by omega, rmark_l0 bits B hB r k _ (by omega) (by omega) (by omega) (by omega)]
      congr 1
      rw [show (x * 2) % 4294967296 = x * 2 from by omega, hp]
      generalize (2 : Int) ^ (32 - (r + 1)) = z at *
      rw [Bool.eq_iff_iff]; simp only [decide_eq_true_eq]; omega
theorem rmark_f (s : List Int) (bits : Int) (k : Nat) (hs : s.length ≤ 100000) (hb : ∀ x ∈ s, 0 ≤ x ∧ x < 256) (hk : 100 ≤ k) : strongroomref17_Mark.f k (strOfNums s) bits = some (markB (weak (lastL 16 s)) bits) := by
  unfold strongroomref17_Mark.f
  have hl := lastL_len 16 s
  rw [last_f s hs, obs, rsum_f _ (by rw [str_size]; omega) k (by rw [str_size]; omega), obs, bytesOf_str (l := lastL 16 s) (fun x hx => hb x (List.mem_of_mem_drop hx))]
  have := rmark_l0 bits _ rfl (min bits.toNat 32) k ((weak (lastL 16 s) * 2654435761) % 4294967296) (Nat.le_refl _) (by omega) (Int.emod_nonneg _ (by omega)) (Int.emod_lt_of_pos _ (by omega))
  rw [Nat.sub_self] at this
  exact this
theorem rcut_l0 (l : List Int) (lo hi bits : Int) (hlh : lo ≤ hi) (hl : l.length ≤ 100000) (hb : ∀ x ∈ l, 0 ≤ x ∧ x < 256) : ∀ (suf pre : List Int) (from_ k : Nat) (acc : List (List Int)), l = pre ++ suf → from_ ≤ pre.length → suf.length + 200 ≤ k → acc.length ≤ pre.length →
    strongroomref17_Cut.l0 k (strOfNums l) lo hi bits (strs acc) (from_ : Int) ((pre.length : Int) + 1) = some (strs (finish (cutRun lo hi bits (lastL 16 pre) (pre.drop from_) suf acc))) := by
  intro suf
  induction suf with
  | nil =>
    intro pre from_ k acc hp hf hk ha
    obtain ⟨k, rfl⟩ : ∃ m, k = m + 1 := ⟨k - 1, by omega⟩
    have hpl : l = pre := by simpa using hp
    subst hpl
    simp only [strongroomref17_Cut.l0, cutRun, finish]
    rw [str_size, if_neg (by omega), strs_len]
    by_cases hfl : (from_ : Int) < (l.length : Int)
    · rw [if_pos hfl, if_pos (by omega), if_pos (by omega), if_pos (by omega), Int.toNat_natCast, str_extract, List.take_of_length_le (Nat.le_refl _)]
      have hne : (l.drop from_) ≠ [] := by intro h; have := congrArg List.length h; simp at this; omega
      cases hd : l.drop from_ with
      | nil => exact absurd hd hne
      | cons y z => simp [strs, opt]
    · rw [if_neg hfl, List.drop_eq_nil_of_le (by omega)]
      simp [opt]
  | cons x suf ih =>
    intro pre from_ k acc hp hf hk ha
    obtain ⟨k, rfl⟩ : ∃ m, k = m + 1 := ⟨k - 1, by omega⟩
    have hlen : l.length = pre.length + suf.length + 1 := by rw [hp]; simp; omega
    have htake : l.take (pre.length + 1) = pre ++ [x] := by rw [hp, show pre ++ x :: suf = (pre ++ [x]) ++ suf from by simp]; exact List.take_left' (by simp)
    have hw : ∀ a : Nat, a = pre.length + 1 - 16 → (strOfNums l).extract a (pre.length + 1) = strOfNums (lastL 16 (pre ++ [x])) := by
      intro a ha
      rw [str_extract, htake, ha]
      unfold lastL
      rw [List.length_append, List.length_singleton]
    have hx : (strOfNums l).extract from_ (pre.length + 1) = strOfNums (pre.drop from_ ++ [x]) := by
      rw [str_extract, htake, List.drop_append_of_le_length hf]
    have hmk := rmark_f (lastL 16 (pre ++ [x])) bits k (by have := lastL_len 16 (pre ++ [x]); omega) (fun y hy => hb y (by
      have := List.mem_of_mem_drop hy
      rw [hp]
      rcases List.mem_append.1 this with h | h
      · simp [h]
      · simp at h; simp [h])) (by simp at hk; omega)
    have ell : lastL 16 (lastL 16 (pre ++ [x])) = lastL 16 (pre ++ [x]) := lastL_short (lastL_len 16 _)
    rw [ell] at hmk
    have esnoc : lastL 16 (lastL 16 pre ++ [x]) = lastL 16 (pre ++ [x]) := lastL_last 16 pre [x]
    -- the two ways on
    have yes : cutsB lo hi bits ((pre.drop from_).length + 1) (lastL 16 (pre ++ [x])) = true → strongroomref17_Cut.l0 k (strOfNums l) lo hi bits (strs acc ++ [strOfNums (pre.drop from_ ++ [x])]) ((pre.length : Int) + 1) ((pre.length : Int) + 1 + 1) = some (strs (finish (cutRun lo hi bits (lastL 16 pre) (pre.drop from_) (x :: suf) acc))) := by
      intro hc
      have h := ih (pre ++ [x]) (pre.length + 1) k (acc ++ [pre.drop from_ ++ [x]]) (by rw [hp]; simp) (by simp) (by simp at hk ⊢; omega) (by simp; omega)
      simp only [cutRun]
      rw [esnoc, if_pos hc]
      rw [show (pre ++ [x]).drop (pre.length + 1) = [] from List.drop_eq_nil_of_le (by simp)] at h
      rw [← h]
      simp [strs]
    have no : cutsB lo hi bits ((pre.drop from_).length + 1) (lastL 16 (pre ++ [x])) = false → strongroomref17_Cut.l0 k (strOfNums l) lo hi bits (strs acc) (from_ : Int) ((pre.length : Int) + 1 + 1) = some (strs (finish (cutRun lo hi bits (lastL 16 pre) (pre.drop from_) (x :: suf) acc))) := by
      intro hc
      have h := ih (pre ++ [x]) from_ k acc (by rw [hp]; simp) (by simp; omega) (by simp at hk ⊢; omega) (by simp; omega)
      simp only [cutRun]
      rw [esnoc, if_neg (by rw [hc]; simp)]
      rw [List.drop_append_of_le_length hf] at h
      rw [← h]
      simp
    have hdl : (pre.drop from_).length = pre.length - from_ := List.length_drop
    rw [hdl] at yes no
    have c1 : ((pre.length - from_ + 1 : Nat) : Int) = (pre.length : Int) + 1 - (from_ : Int) := by omega
    have e2 : ((pre.length : Int) + 1).toNat = pre.length + 1 := by omega
    simp only [strongroomref17_Cut.l0]
    rw [str_size, if_pos (by omega), w64 (x := (pre.length : Int) + 1 - 16) (by omega) (by omega), w64 (x := (pre.length : Int) + 1 - (from_ : Int)) (by omega) (by omega), w64 (x := (pre.length : Int) + 1 + 1) (by omega) (by omega), e2, Int.toNat_natCast, hx, strs_len]
    have mfin : (if markB (weak (lastL 16 (pre ++ [x]))) bits = true then
        (if 0 ≤ (from_ : Int) then (if (from_ : Int) ≤ (pre.length : Int) + 1 then (if acc.length < 8796093022208 then (strongroomref17_Cut.l0 k (strOfNums l) lo hi bits (strs acc ++ [strOfNums (pre.drop from_ ++ [x])]) ((pre.length : Int) + 1) ((pre.length : Int) + 1 + 1)) else none) else none) else none)
        else strongroomref17_Cut.l0 k (strOfNums l) lo hi bits (strs acc) (from_ : Int) ((pre.length : Int) + 1 + 1)) = some (strs (finish (cutRun lo hi bits (lastL 16 pre) (pre.drop from_) (x :: suf) acc))) ∨ (pre.length : Int) + 1 - (from_ : Int) = hi ∨ ¬ ((pre.length : Int) + 1 - (from_ : Int) ≥ lo) := by
      by_cases h1 : (pre.length : Int) + 1 - (from_ : Int) = hi
      · exact .inr (.inl h1)
      · by_cases h2 : (pre.length : Int) + 1 - (from_ : Int) ≥ lo
        · left
          cases hm : markB (weak (lastL 16 (pre ++ [x]))) bits with
          | true =>
            rw [if_pos rfl, if_pos (by omega), if_pos (by omega), if_pos (by omega)]
            refine yes ?_
            simp only [cutsB, Bool.and_eq_true, Bool.or_eq_true, decide_eq_true_eq]
            exact ⟨by omega, .inr hm⟩
          | false =>
            rw [if_neg (by simp)]
            refine no ?_
            simp only [cutsB, Bool.and_eq_false_iff, Bool.or_eq_false_iff, decide_eq_false_iff_not]
            exact .inr ⟨by omega, hm⟩
        · exact .inr (.inr h2)
    have hcA : (pre.length : Int) + 1 - (from_ : Int) = hi → cutsB lo hi bits (pre.length - from_ + 1) (lastL 16 (pre ++ [x])) = true := by
      intro h1
      simp only [cutsB, Bool.and_eq_true, Bool.or_eq_true, decide_eq_true_eq]
      exact ⟨by omega, .inl (by omega)⟩
    have hcC : ¬ ((pre.length : Int) + 1 - (from_ : Int) ≥ lo) → cutsB lo hi bits (pre.length - from_ + 1) (lastL 16 (pre ++ [x])) = false := by
      intro h2
      simp only [cutsB, Bool.and_eq_false_iff, decide_eq_false_iff_not]
      exact .inl (by omega)
    by_cases h0 : (pre.length : Int) + 1 - 16 < 0
    · rw [if_pos h0]
      by_cases h1 : (pre.length : Int) + 1 - (from_ : Int) = hi
      · rw [if_pos h1, if_pos (by omega), if_pos (by omega), if_pos (by omega)]; exact yes (hcA h1)
      · rw [if_neg h1]
        by_cases h2 : (pre.length : Int) + 1 - (from_ : Int) ≥ lo
        · rw [if_pos h2, if_pos (by omega), hw 0 (by omega), hmk, obs]
          exact mfin.resolve_right (fun h => h.elim h1 (fun h => h h2))
        · rw [if_neg h2]; exact no (hcC h2)
    · rw [if_neg h0]
      by_cases h1 : (pre.length : Int) + 1 - (from_ : Int) = hi
      · rw [if_pos h1, if_pos (by omega), if_pos (by omega), if_pos (by omega)]; exact yes (hcA h1)
      · rw [if_neg h1]
        by_cases h2 : (pre.length : Int) + 1 - (from_ : Int) ≥ lo
        · rw [if_pos h2, if_pos (by omega), if_pos (by omega), hw _ (show ((pre.length : Int) + 1 - 16).toNat = pre.length + 1 - 16 from by omega), hmk, obs]
          exact mfin.resolve_right (fun h => h.elim h1 (fun h => h h2))
        · rw [if_neg h2]; exact no (hcC h2)
theorem str_bytesOf (s : ByteArray) : strOfNums (bytesOf s) = s := by
  apply ByteArray.ext
  apply Array.ext'
  simp only [strOfNums, bytesOf, List.map_map]
  exact (List.map_congr_left (fun b _ => by simp)).trans (List.map_id _)
theorem rcut_f (s : ByteArray) (lo hi bits : Int) (hlh : lo ≤ hi) (hs : s.size ≤ 100000) : strongroomref17_Cut.f (s.size + 200) s lo hi bits = some (strs (chunksL lo hi bits (bytesOf s))) := by
  unfold strongroomref17_Cut.f
  have := rcut_l0 (bytesOf s) lo hi bits hlh (by rw [bytesOf_length]; exact hs) (bytesOf_byte s) (bytesOf s) [] 0 (s.size + 200) [] rfl (by simp) (by rw [bytesOf_length]; omega) (by simp)
  rw [str_bytesOf] at this
  exact this
theorem rcut_c (s : ByteArray) (lo hi bits : Int) (w : World) (hlh : lo ≤ hi) (hs : s.size ≤ 100000) : Calls Try.prog 14 #[.string s, .int .i64 lo, .int .i64 hi, .int .i64 bits] w (Tells w (fun w' v => w'.ownsRow w.heap.size 9 1 v (chunksL lo hi bits (bytesOf s)).length (encs Value.string (strs (chunksL lo hi bits (bytesOf s)))))) :=
  (strongroomref17_Cut.calls (s.size + 200) s lo hi bits _ w (rcut_f s lo hi bits hlh hs)).mono fun e w' ⟨v, he, hR, hb⟩ => ⟨v, he, by have := Kd.own_of_R (h1 := fun _ => rfl) hR; rw [strs_len] at this; exact this, hb⟩
end Go.Proofs.Ytaeobiilihklhaa.F
