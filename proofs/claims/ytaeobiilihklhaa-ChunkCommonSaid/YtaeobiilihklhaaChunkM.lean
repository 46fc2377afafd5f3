/- Plain laws of cutting a text: where it is marked, what a run over bytes cuts off. No program in sight. -/
import Derived.Test.YtaeobiilihklhaaWinM
namespace Go.Proofs.YtaeobiilihklhaaM
open Go Go.RowKit
/-- is a place with this weak sum marked? -/
def markB (n bits : Int) : Bool := decide ((n * 2654435761) % 4294967296 < 2 ^ (32 - min bits.toNat 32))
/-- what a measure asks of n bytes behind the window s -/
def cutsB (lo hi bits : Int) (n : Nat) (s : List Int) : Bool := decide (lo ≤ n) && (decide ((n : Int) = hi) || markB (weak s) bits)
/-- the run: the window's bytes, the bytes that wait, the bytes to come, what was cut off -/
def cutRun (lo hi bits : Int) : List Int → List Int → List Int → List (List Int) → List (List Int) × List Int × List Int
  | s, b, [], acc => (acc, s, b)
  | s, b, x :: l, acc => if cutsB lo hi bits (b.length + 1) (lastL 16 (s ++ [x])) = true then cutRun lo hi bits (lastL 16 (s ++ [x])) [] l (acc ++ [b ++ [x]]) else cutRun lo hi bits (lastL 16 (s ++ [x])) (b ++ [x]) l acc
theorem cutRun_append (lo hi bits : Int) : ∀ (l m s b : List Int) (acc : List (List Int)), cutRun lo hi bits s b (l ++ m) acc = cutRun lo hi bits (cutRun lo hi bits s b l acc).2.1 (cutRun lo hi bits s b l acc).2.2 m (cutRun lo hi bits s b l acc).1
  | [], m, s, b, acc => rfl
  | x :: l, m, s, b, acc => by
    simp only [List.cons_append, cutRun]
    split
    · exact cutRun_append lo hi bits l m _ _ _
    · exact cutRun_append lo hi bits l m _ _ _
theorem cutRun_acc (lo hi bits : Int) : ∀ (l s b : List Int) (acc : List (List Int)), cutRun lo hi bits s b l acc = (acc ++ (cutRun lo hi bits s b l []).1, (cutRun lo hi bits s b l []).2)
  | [], s, b, acc => by simp [cutRun]
  | x :: l, s, b, acc => by
    simp only [cutRun]
    split
    · rw [cutRun_acc lo hi bits l _ _ (acc ++ [b ++ [x]]), cutRun_acc lo hi bits l _ _ ([] ++ [b ++ [x]])]; simp
    · exact cutRun_acc lo hi bits l _ _ acc
/-- a measure that may be -/
def mayM (lo hi bits : Int) : Prop := 1 ≤ lo ∧ lo ≤ hi ∧ hi ≤ 1024 ∧ 0 ≤ bits ∧ bits ≤ 16
/-- what waits is less than the most -/
theorem cutRun_wait {lo hi bits : Int} (hm : mayM lo hi bits) : ∀ (l s b : List Int) (acc : List (List Int)), (b.length : Int) < hi → ((cutRun lo hi bits s b l acc).2.2.length : Int) < hi
  | [], s, b, acc, h => h
  | x :: l, s, b, acc, h => by
    simp only [cutRun]
    split
    · exact cutRun_wait hm l _ _ _ (by simp; have := hm.1; have := hm.2.1; omega)
    · rename_i hn
      refine cutRun_wait hm l _ _ _ ?_
      simp only [List.length_append, List.length_singleton]
      rcases Int.lt_or_le ((b.length + 1 : Nat) : Int) hi with h1 | h1
      · exact h1
      · exfalso
        apply hn
        have e : ((b.length + 1 : Nat) : Int) = hi := by omega
        simp only [cutsB, Bool.and_eq_true, Bool.or_eq_true, decide_eq_true_eq]
        exact ⟨by have := hm.2.1; omega, .inl e⟩
/-- what is left is one more, if there is any -/
def opt : List Int → List (List Int)
  | [] => []
  | x :: l => [x :: l]
/-- the end of a run: what waits is a chunk, if there is any -/
def finish (r : List (List Int) × List Int × List Int) : List (List Int) := r.1 ++ opt r.2.2
/-- the chunks of a text -/
def chunksL (lo hi bits : Int) (l : List Int) : List (List Int) := finish (cutRun lo hi bits [] [] l [])
theorem opt_flat (b : List Int) : (opt b).flatten = b := by cases b <;> simp [opt]
theorem opt_mem {b c : List Int} (h : c ∈ opt b) : c = b ∧ b ≠ [] := by cases b <;> simp [opt] at h; exact ⟨h, by simp⟩
theorem opt_len (b : List Int) : (opt b).length ≤ 1 := by cases b <;> simp [opt]
theorem cutRun_flat (lo hi bits : Int) : ∀ (l s b : List Int) (acc : List (List Int)), (cutRun lo hi bits s b l acc).1.flatten ++ (cutRun lo hi bits s b l acc).2.2 = acc.flatten ++ b ++ l
  | [], s, b, acc => by simp [cutRun]
  | x :: l, s, b, acc => by
    simp only [cutRun]
    split
    · rw [cutRun_flat lo hi bits l]; simp
    · rw [cutRun_flat lo hi bits l]; simp
theorem cutRun_lens {lo hi bits : Int} (hm : mayM lo hi bits) : ∀ (l s b : List Int) (acc : List (List Int)), (b.length : Int) < hi → (∀ c ∈ acc, lo ≤ (c.length : Int) ∧ (c.length : Int) ≤ hi) → ∀ c ∈ (cutRun lo hi bits s b l acc).1, lo ≤ (c.length : Int) ∧ (c.length : Int) ≤ hi
  | [], s, b, acc, _, h => h
  | x :: l, s, b, acc, hb, h => by
    simp only [cutRun]
    split
    · rename_i hc
      refine cutRun_lens hm l _ _ _ (by simp; have := hm.1; have := hm.2.1; omega) ?_
      intro c hcm
      rcases List.mem_append.1 hcm with h1 | h1
      · exact h c h1
      · simp at h1
        subst h1
        simp only [cutsB, Bool.and_eq_true, decide_eq_true_eq] at hc
        simp only [List.length_append, List.length_singleton]
        exact ⟨hc.1, by omega⟩
    · rename_i hn
      refine cutRun_lens hm l _ _ _ ?_ h
      simp only [List.length_append, List.length_singleton]
      rcases Int.lt_or_le ((b.length + 1 : Nat) : Int) hi with h1 | h1
      · exact h1
      · exfalso
        apply hn
        have e : ((b.length + 1 : Nat) : Int) = hi := by omega
        simp only [cutsB, Bool.and_eq_true, Bool.or_eq_true, decide_eq_true_eq]
        exact ⟨by have := hm.2.1; omega, .inl e⟩
/-- bytes stay bytes -/
theorem cutRun_bytes (lo hi bits : Int) (p : Int → Prop) : ∀ (l s b : List Int) (acc : List (List Int)), (∀ x ∈ l, p x) → (∀ x ∈ b, p x) → (∀ c ∈ acc, ∀ x ∈ c, p x) → (∀ c ∈ (cutRun lo hi bits s b l acc).1, ∀ x ∈ c, p x) ∧ ∀ x ∈ (cutRun lo hi bits s b l acc).2.2, p x
  | [], s, b, acc, _, hb, ha => ⟨ha, hb⟩
  | x :: l, s, b, acc, hl, hb, ha => by
    have hbx : ∀ y ∈ b ++ [x], p y := fun y hy => (List.mem_append.1 hy).elim (hb y) (fun h => by simp at h; rw [h]; exact hl x (by simp))
    simp only [cutRun]
    split
    · exact cutRun_bytes lo hi bits p l _ _ _ (fun y hy => hl y (by simp [hy])) (by simp) (fun c hc => (List.mem_append.1 hc).elim (ha c) (fun h => by simp at h; rw [h]; exact hbx))
    · exact cutRun_bytes lo hi bits p l _ _ _ (fun y hy => hl y (by simp [hy])) hbx ha
theorem cutRun_len (lo hi bits : Int) : ∀ (l s b : List Int) (acc : List (List Int)), (cutRun lo hi bits s b l acc).1.length ≤ acc.length + l.length
  | [], s, b, acc => by simp [cutRun]
  | x :: l, s, b, acc => by
    simp only [cutRun]
    split
    · have := cutRun_len lo hi bits l (lastL 16 (s ++ [x])) [] (acc ++ [b ++ [x]])
      simp at this ⊢; omega
    · have := cutRun_len lo hi bits l (lastL 16 (s ++ [x])) (b ++ [x]) acc
      simp at this ⊢; omega
theorem chunksL_eq (lo hi bits : Int) (l : List Int) : chunksL lo hi bits l = finish (cutRun lo hi bits [] [] l []) := rfl
theorem chunksL_bytes (lo hi bits : Int) (l : List Int) (p : Int → Prop) (h : ∀ x ∈ l, p x) : ∀ c ∈ chunksL lo hi bits l, ∀ x ∈ c, p x := by
  have hb := cutRun_bytes lo hi bits p l [] [] [] h (by simp) (by simp)
  intro c hc
  rcases List.mem_append.1 hc with hc | hc
  · exact hb.1 c hc
  · rw [(opt_mem hc).1]; exact hb.2
theorem chunksL_len (lo hi bits : Int) (l : List Int) : (chunksL lo hi bits l).length ≤ l.length + 1 := by
  have := cutRun_len lo hi bits l [] [] []
  have h2 := opt_len (cutRun lo hi bits [] [] l []).2.2
  unfold chunksL finish
  simp at this ⊢; omega
theorem chunksL_flat (lo hi bits : Int) (l : List Int) : (chunksL lo hi bits l).flatten = l := by
  have := cutRun_flat lo hi bits l [] [] []
  unfold chunksL finish
  rw [List.flatten_append, opt_flat]
  simpa using this
end Go.Proofs.YtaeobiilihklhaaM
