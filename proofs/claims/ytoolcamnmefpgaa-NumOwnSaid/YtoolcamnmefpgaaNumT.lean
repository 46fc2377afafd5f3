/- What GetText and PutText of the package num and of its reference come to, in closed form. -/
import Derived.Test.YtoolcamnmefpgaaNumLeast
import Derived.Test.YtoolcamnmefpgaaF18
import Derived.Test.YtoolcamnmefpgaaF19
namespace Go.Proofs.Ytoolcamnmefpgaa.F
open Go Go.RowKit Go.Proofs.YtoolcamnmefpgaaW.PrintWords Go.Proofs.YtoolcamnmefpgaaW.PrintLast Go.Proofs.YtoolcamnmefpgaaW.PrintMore Go.Proofs.YtoolcamnmefpgaaM Go.Proofs.YtoolcamnmefpgaaR
attribute [local go_sem] max2_int min2_int max_two min_two
set_option linter.unusedSimpArgs false
set_option linter.unusedVariables false
set_option maxRecDepth 100000
/-- a text at a place of bytes -/
def getT (l : List Int) (a most : Int) : List Int × Int × Int :=
  let g := getL l a
  if g.2.2 ≠ 0 then ([], 0, g.2.2)
  else if max most 0 < g.1 then ([], 0, 2)
  else if (l.length : Int) - g.2.1 < g.1 then ([], 0, 3)
  else ((l.take (g.2.1 + g.1).toNat).drop g.2.1.toNat, g.2.1 + g.1, 0)
theorem getT_c (A : Option Addr) (c : Nat) (l : List Int) (a most : Int) (w : World) (hr : Kd.C (Kd.int .u8) w A l.length l) (hc : l.length ≤ c) (hl : l.length ≤ 140737488351232) (hb : ∀ x ∈ l, 0 ≤ x ∧ x < 256) (hm0 : -9223372036854775808 ≤ most) (hm1 : most ≤ 9223372036854775807) :
    Calls Try.prog 17 #[.slice A l.length c, .int .i64 a, .int .i64 most] w (Tells w (Is (.tuple #[.string (strOfNums (getT l a most).1), .int .i64 (getT l a most).2.1, .int .i64 (getT l a most).2.2]))) := by
  have hget := get_c A c l a w hr hc hl hb
  obtain ⟨M, hM, hmx⟩ : ∃ M : Nat, max most 0 = (M : Int) ∧ (if most < 0 then (0 : Int) else most) = (M : Int) := ⟨(max most 0).toNat, by omega, by split <;> omega⟩
  have hM1 : (M : Int) ≤ 9223372036854775807 := by omega
  by_cases he : (getL l a).2.2 = 0
  · obtain ⟨m, n, rfl, hn, hq, hle, hs⟩ := getL_ok hb he
    obtain ⟨K, hK⟩ : ∃ K, K = m + (putL n).length := ⟨_, rfl⟩
    rw [← hK] at hle hq
    rw [hq] at hget
    have HG := Lib.hid hget
    clear hget hs hK
    by_cases h1 : M < n
    · have hres : getT l m most = ([], 0, 2) := by
        unfold getT; rw [hq]; simp only; rw [if_neg (by simp), if_pos (by omega)]
      rw [hres]
      clear hres hq he hb
      have d1 : decide (M < n) = true := decide_eq_true h1
      go_enter Try.func17, Try.ntmps17
      go_wp2_with fail
      refine HG.out.mono ?_
      rintro e w2 ⟨_, rfl, rfl, hg2⟩
      go_wp2_with fail
      go_ret3
      exact ⟨_, rfl, rfl, hg2⟩
    have d1 : decide (M < n) = false := decide_eq_false h1
    by_cases h2 : (l.length : Int) - (K : Int) < (n : Int)
    · have hres : getT l m most = ([], 0, 3) := by
        unfold getT; rw [hq]; simp only; rw [if_neg (by simp), if_neg (by omega), if_pos h2]
      rw [hres]
      clear hres hq he hb
      have d2 : decide ((l.length : Int) - (K : Int) < (n : Int)) = true := decide_eq_true h2
      go_enter Try.func17, Try.ntmps17
      go_wp2_with fail
      refine HG.out.mono ?_
      rintro e w2 ⟨_, rfl, rfl, hg2⟩
      go_wp2_with fail
      go_ret3
      exact ⟨_, rfl, rfl, hg2⟩
    · have hres : getT l m most = ((l.take (K + n)).drop K, ((K : Int) + (n : Int)), 0) := by
        unfold getT; rw [hq]; simp only; rw [if_neg (by simp), if_neg (by omega), if_neg h2]
        rw [show ((K : Int) + (n : Int)).toNat = K + n from by omega, show ((K : Int)).toNat = K from by omega]
      rw [hres]
      clear hres hq he hb
      have d2 : decide ((l.length : Int) - (K : Int) < (n : Int)) = false := decide_eq_false h2
      have e1 : ((K : Int) + (n : Int)).toNat = K + n := by omega
      have e2 : (K : Int) + (n : Int) ≤ (c : Int) := by omega
      have e3 : 0 ≤ (K : Int) + (n : Int) := by omega
      have hkn : K + n ≤ l.length := by omega
      go_enter Try.func17, Try.ntmps17
      go_wp2_with fail
      refine HG.out.mono ?_
      rintro e w2 ⟨_, rfl, rfl, hg2⟩
      obtain ⟨A', c', hv, _, hC⟩ := mid_row (s := (l.take (K + n)).drop K) (L := n) (Kd.C_below hr hg2) hc hkn rfl (by simp; omega)
      have hlen : ((l.take (K + n)).drop K).length = n := by simp; omega
      rw [hlen] at hv hC
      have hcv := Kd.C_string (P := Try.prog) (c := c') Try.underlying22 Try.underlying5 Try.underlying9 hC
      rw [← hv] at hcv
      clear hv hC hlen
      go_wp2_with fail
      all_goals
        go_ret3
        exact ⟨_, rfl, rfl, hg2⟩
  · have hres : getT l a most = ([], 0, (getL l a).2.2) := by
      unfold getT; simp only; rw [if_pos he]
    rw [hres]
    clear hres
    obtain ⟨h1, h2⟩ := getL_err he
    rcases hq : getL l a with ⟨p, q, e0⟩
    rw [hq] at hget he h1 h2
    simp only at h1 h2 he
    subst h1 h2
    have HG := Lib.hid hget
    clear hget hq hb
    have e1 : (e0 == 0) = false := by simpa using he
    have e2 : (e0 != 0) = true := by simpa using he
    go_enter Try.func17, Try.ntmps17
    go_wp2_with fail
    refine HG.out.mono ?_
    rintro e w2 ⟨_, rfl, rfl, hg2⟩
    go_wp2_with fail
    go_ret3
    exact ⟨_, rfl, rfl, hg2⟩
theorem str_extract (s : ByteArray) (i j : Nat) (hj : j ≤ s.size) : s.extract i j = strOfNums (((bytesOf s).take j).drop i) := by
  apply ByteArray.ext
  apply Array.toList_inj.1
  have e : ∀ l : List UInt8, List.map (fun z : Int => UInt8.ofNat z.toNat) (l.map fun b => (b.toNat : Int)) = l := by
    intro l; simp [Function.comp_def]
  unfold strOfNums bytesOf
  rw [← List.map_take, ← List.map_drop]
  simp [ByteArray.data_extract, List.drop_take]
  rw [← List.map_map, e]
theorem str_bytesOf (s : ByteArray) : strOfNums (bytesOf s) = s := by
  have := str_extract s 0 s.size (Nat.le_refl _)
  rw [List.drop_zero, List.take_of_length_le (by rw [bytesOf_length]; exact Nat.le_refl _)] at this
  rw [← this]; simp
theorem rgetT_f (s : ByteArray) (hs : s.size ≤ 140737488351232) (a most : Int) (hm1 : most ≤ 9223372036854775807) : strongroomref01_GetText.f 24 s a most = some (strOfNums (getT (bytesOf s) a most).1, (getT (bytesOf s) a most).2.1, (getT (bytesOf s) a most).2.2) := by
  unfold strongroomref01_GetText.f
  rw [rget_f s hs a, obs]
  have hsl := bytesOf_length s
  by_cases he : (getL (bytesOf s) a).2.2 = 0
  · rw [if_pos he]
    obtain ⟨m, n, rfl, hn, hq, hle, _⟩ := getL_ok (bytesOf_byte s) he
    generalize m + (putL n).length = K at *
    have key : ∀ M : Int, M = max most 0 → strongroomref01_GetText.j0 24 s M (getL (bytesOf s) m).1 (getL (bytesOf s) m).2.1 = some (strOfNums (getT (bytesOf s) m most).1, (getT (bytesOf s) m most).2.1, (getT (bytesOf s) m most).2.2) := by
      intro M hM
      unfold getT
      rw [hq]
      simp only [strongroomref01_GetText.j0]
      rw [if_neg (show ¬ ((0 : Int) ≠ 0) from fun h => h rfl)]
      rw [u64_wraps M (by omega) (by omega)]
      by_cases h1 : (n : Int) > M
      · rw [if_pos h1, if_pos (show max most 0 < (n : Int) from by omega)]; rfl
      · rw [if_neg h1, if_neg (show ¬ max most 0 < (n : Int) from by omega), w64 (x := (s.size : Int) - (K : Int)) (by omega) (by omega), u64_wraps ((s.size : Int) - (K : Int)) (by omega) (by omega)]
        by_cases h2 : (n : Int) > (s.size : Int) - (K : Int)
        · rw [if_pos h2, if_pos (show ((bytesOf s).length : Int) - (K : Int) < (n : Int) from by omega)]; rfl
        · rw [if_neg h2, if_neg (show ¬ ((bytesOf s).length : Int) - (K : Int) < (n : Int) from by omega), w64 (x := (n : Int)) (by omega) (by omega), w64 (x := (K : Int) + (n : Int)) (by omega) (by omega), if_pos (show (0 : Int) ≤ (K : Int) from by omega), if_pos (show (K : Int) ≤ (K : Int) + (n : Int) from by omega), if_pos (show (K : Int) + (n : Int) ≤ (s.size : Int) from by omega)]
          rw [str_extract s _ _ (by omega)]
    by_cases hm : most < 0
    · rw [if_pos hm]; exact key 0 (by omega)
    · rw [if_neg hm]; exact key most (by omega)
  · rw [if_neg he]
    unfold getT
    simp only
    rw [if_pos he]; rfl
theorem rgetT_c (s : ByteArray) (a most : Int) (w : World) (hs : s.size ≤ 140737488351232) (hm1 : most ≤ 9223372036854775807) :
    Calls Try.prog 18 #[.string s, .int .i64 a, .int .i64 most] w (Tells w (Is (.tuple #[.string (strOfNums (getT (bytesOf s) a most).1), .int .i64 (getT (bytesOf s) a most).2.1, .int .i64 (getT (bytesOf s) a most).2.2]))) :=
  tells_is ((strongroomref01_GetText.calls 24 s a most _ _ _ w (rgetT_f s hs a most hm1)).mono fun _ _ ⟨h, k⟩ => ⟨h, drawn_below k⟩)
/-- a text's bytes -/
def textL (s : ByteArray) : List Int := putL s.size ++ bytesOf s
theorem putT_c (A : Option Addr) (c : Nat) (l : List Int) (s : ByteArray) (w : World) (hr : Kd.C (Kd.int .u8) w A l.length l) (hc : l.length ≤ c) (hl : l.length ≤ 100000) (hs : s.size ≤ 100000) :
    Calls Try.prog 19 #[.slice A l.length c, .string s] w (Tells w (Row (l ++ textL s))) := by
  refine (num_PutText.calls 10 A c l s (l ++ textL s) w hr hc ?_).mono fun e w' ⟨v, he, hR, hb⟩ => ⟨v, he, row_of_R hR, hb⟩
  unfold num_PutText.f
  have := putL_ten (n := s.size) (by omega)
  rw [own_f l (by omega), obs, u64_wraps _ (by omega) (by omega), lay_f 10 s.size l (by omega) (by omega) (by omega), obs, if_pos (by simp; omega)]
  simp [textL]
theorem rtext_c (s : ByteArray) (w : World) (hs : s.size ≤ 140737488351232) :
    Calls Try.prog 20 #[.string s] w (Tells w (Is (.string (strOfNums (putL s.size) ++ s)))) := by
  have h1 : ¬ (9223372036854775807 < (strOfNums (putL s.size)).size + s.size) := by rw [str_size]; have := putL_ten (n := s.size) (by omega); omega
  go_enter Try.func20, Try.ntmps20
  go_wp2_with fail
  refine (rput_c s.size _ (by omega)).mono ?_
  rintro e w2 ⟨_, rfl, rfl, hg2⟩
  go_wp2_with fail
  go_ret
  exact ⟨_, rfl, rfl, hg2⟩
end Go.Proofs.Ytoolcamnmefpgaa.F
