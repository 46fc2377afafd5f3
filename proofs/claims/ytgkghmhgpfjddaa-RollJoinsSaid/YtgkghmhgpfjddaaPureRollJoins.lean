/- The sum of two pieces together is what Join makes of their sums, in either grouping of three: the pure statement of RollJoins, for all lists of bytes. -/
import Derived.Test.YtgkghmhgpfjddaaPRollJoinsx1
import Derived.Test.YtgkghmhgpfjddaaRollMath
import Derived.Test.YtgkghmhgpfjddaaSized2
namespace Go.Proofs.Ytgkghmhgpfjddaa.Pure
open Go Go.RowKit Go.Proofs.Ytgkghmhgpfjddaa.PRollJoins Go.Proofs.YtgkghmhgpfjddaaW.PrintWords Go.Proofs.YtgkghmhgpfjddaaW.PrintLast Go.Proofs.YtgkghmhgpfjddaaM

theorem make16_f (a b : Int) (a0 : 0 ≤ a) (a1 : a < 4294967296) : roll_make16.f a b = some (a % 65536 + 65536 * (b % 65536)) := by
  unfold roll_make16.f; rw [make16_eq a b a0 a1]

theorem rd_append (pre : List Int) (c : Int) (post : List Int) : rd (pre ++ c :: post) (pre.length : Int) = c := by
  unfold rd; simp [List.getD]

theorem sum_l0 (l : List Int) (hl : l.length ≤ 140737488351232) (hb : ∀ x ∈ l, 0 ≤ x ∧ x < 256) :
    ∀ (post pre : List Int) (x y : Int) (k : Nat), l = pre ++ post → post.length < k → 0 ≤ x → x < 4294967296 → 0 ≤ y → y < 4294967296 →
      roll_Sum.l0 k x y l (l.length : Int) (pre.length : Int) = some (weakOf (AB (x, y) post)) := by
  intro post
  induction post with
  | nil =>
    intro pre x y k h hk x0 x1 y0 y1
    obtain ⟨k, rfl⟩ : ∃ m, k = m + 1 := ⟨k - 1, by omega⟩
    have : pre.length = l.length := by simp [h]
    simp only [roll_Sum.l0]; rw [if_neg (by omega), make16_f _ _ x0 x1]; simp [weakOf, AB]
  | cons c post ih =>
    intro pre x y k h hk x0 x1 y0 y1
    obtain ⟨k, rfl⟩ : ∃ m, k = m + 1 := ⟨k - 1, by simp at hk; omega⟩
    have hlen : l.length = pre.length + (post.length + 1) := by simp [h]
    have hc : rd l (pre.length : Int) = c := by rw [h]; exact rd_append pre c post
    have hc2 := hb c (by simp [h])
    simp only [roll_Sum.l0]
    rw [if_pos (by omega), if_pos (by omega), if_pos (by omega), hc, show wrap64 ((pre.length : Int) + 1) = ((pre ++ [c]).length : Int) from by unfold wrap64; simp; omega]
    rw [ih (pre ++ [c]) _ _ k (by simp [h]) (by simp at hk; omega) (by omega) (by omega) (by omega) (by omega)]
    rw [show AB (x, y) (c :: post) = AB (st (x,y) c) post from rfl]
    rw [AB_shift, AB_shift (st (x,y) c)]
    congr 1; apply weakOf_congr
    · simp only [st]; omega
    · simp only [st]
      have key : ∀ (n p q : Int), p % 65536 = q % 65536 → (n * p) % 65536 = (n * q) % 65536 := fun n p q h => by rw [Int.mul_emod, h, ← Int.mul_emod]
      have := key post.length ((x + c % 4294967296) % 4294967296) (x + c) (by omega)
      omega

theorem sum_f (l : List Int) (hl : l.length ≤ 140737488351232) (hb : ∀ x ∈ l, 0 ≤ x ∧ x < 256) (k : Nat) (hk : l.length < k) : roll_Sum.f k l = some (weak l) := by
  unfold roll_Sum.f
  exact sum_l0 l hl hb l [] 0 0 k rfl hk (by omega) (by omega) (by omega) (by omega)

theorem lives_f (k : Nat) (hk : 3 < k) : strongroomlaw04_lives.f k = some true := by
  unfold strongroomlaw04_lives.f
  rw [sum_f _ (by simp) (by simp) k (by simpa using hk)]
  rfl

def join (x y size : Int) : Int := (x % 65536 + y % 65536) % 65536 + 65536 * ((x / 65536 + y / 65536 + size * (x % 65536)) % 65536)
theorem join_f (x y size : Int) (x0 : 0 ≤ x) (x1 : x < 4294967296) (y0 : 0 ≤ y) (y1 : y < 4294967296) : roll_Join.f x y size = some (join x y size) := by
  unfold roll_Join.f
  rw [and16 x x0 x1, and16 y y0 y1, make16_f _ _ (by omega) (by omega)]
  simp only [Option.bind_some, join]
  congr 2
  · omega
  · have : (size % 4294967296 * (x % 65536)) % 65536 = (size * (x % 65536)) % 65536 := by
      rw [Int.mul_emod, show size % 4294967296 % 65536 = size % 65536 from by omega, ← Int.mul_emod]
    omega
theorem join_range (x y size : Int) : 0 ≤ join x y size ∧ join x y size < 4294967296 := by unfold join; omega
theorem join_weak (l m : List Int) : join (weak l) (weak m) m.length = weak (l ++ m) := by
  rw [weak_append]
  unfold join weak
  rw [weakOf_lo, weakOf_lo, weakOf_hi, weakOf_hi]
  unfold weakOf
  have : ((m.length : Int) * ((AB (0,0) l).1 % 65536)) % 65536 = ((m.length : Int) * (AB (0,0) l).1) % 65536 := by
    rw [Int.mul_emod, show (AB (0,0) l).1 % 65536 % 65536 = (AB (0,0) l).1 % 65536 from by omega, ← Int.mul_emod]
  simp only
  omega

theorem bytes_of (l : List Int) (h : ∀ x ∈ l, (Lit.int .u8 x).wf = true) : ∀ x ∈ l, 0 ≤ x ∧ x < 256 := by
  intro x hx
  have := h x hx
  simp [Lit.wf, IntKind.min, IntKind.max, IntKind.bits, IntKind.signed] at this
  omega
theorem RollJoins : strongroomlaw04_RollJoins.Pure := by
  intro a b c ha1 ha2 ha3 hb1 hb2 hb3 hc1 hc2 hc3
  have A := bytes_of a ha3
  have B := bytes_of b hb3
  have C := bytes_of c hc3
  obtain ⟨K, hK⟩ : ∃ K : Nat, 4000 < K := ⟨4001, by decide⟩
  refine ⟨K + 1, ?_⟩
  unfold strongroomlaw04_RollJoins.f
  have yes : strongroomlaw04_RollJoins.j0 (K + 1) a b c true = some true := by
    simp only [strongroomlaw04_RollJoins.j0]; rw [lives_f K (by omega)]; rfl
  by_cases h1 : (a.length : Int) > 1000
  · rw [if_pos h1]; exact yes
  rw [if_neg h1]
  by_cases h2 : (b.length : Int) > 1000
  · rw [if_pos h2]; exact yes
  rw [if_neg h2]
  by_cases h3 : (c.length : Int) > 1000
  · rw [decide_eq_true h3]; exact yes
  rw [decide_eq_false h3]
  simp only [strongroomlaw04_RollJoins.j0, obs, List.nil_append, List.length_nil]
  have ab : ∀ x ∈ a ++ b, 0 ≤ x ∧ x < 256 := fun x hx => (List.mem_append.1 hx).elim (A x) (B x)
  have abc : ∀ x ∈ a ++ b ++ c, 0 ≤ x ∧ x < 256 := fun x hx => (List.mem_append.1 hx).elim (ab x) (C x)
  have bc : ∀ x ∈ b ++ c, 0 ≤ x ∧ x < 256 := fun x hx => (List.mem_append.1 hx).elim (B x) (C x)
  have r : ∀ l, 0 ≤ weak l ∧ weak l < 4294967296 := fun l => weakOf_range (AB (0,0) l)
  have jr := join_range
  rw [if_neg (by simp), if_pos (by omega), if_pos (by omega), sum_f a (by omega) A _ (by omega), sum_f b (by omega) B _ (by omega), sum_f c (by omega) C _ (by omega)]
  simp only [obs]
  rw [join_f _ _ _ (r a).1 (r a).2 (r b).1 (r b).2, sum_f (a ++ b) (by simp; omega) ab _ (by simp; omega)]
  simp only [obs]
  rw [if_pos (join_weak a b), if_pos (by simp; omega), sum_f (a ++ b ++ c) (by simp; omega) abc _ (by simp; omega), join_weak a b, join_f _ _ _ (r _).1 (r _).2 (r c).1 (r c).2]
  simp only [obs]
  rw [if_pos (join_weak _ c), join_f _ _ _ (r b).1 (r b).2 (r c).1 (r c).2]
  simp only [obs]
  rw [join_weak b c, join_f _ _ _ (r a).1 (r a).2 (r _).1 (r _).2]
  simp only [obs]
  rw [if_pos, lives_f _ (by omega)]; rfl
  rw [show wrap64 ((b.length : Int) + c.length) = ((b ++ c).length : Int) from by unfold wrap64; simp; omega, join_weak a (b ++ c), List.append_assoc]

end Go.Proofs.Ytgkghmhgpfjddaa.Pure
