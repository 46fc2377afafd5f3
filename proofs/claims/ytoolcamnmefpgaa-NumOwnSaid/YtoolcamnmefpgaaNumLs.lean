/- What GetList, PutList and their references come to, in closed form. -/
import Derived.Test.YtoolcamnmefpgaaNumTexts
import Derived.Test.YtoolcamnmefpgaaF22
import Derived.Test.YtoolcamnmefpgaaF23
import Derived.Test.YtoolcamnmefpgaaF25
namespace Go.Proofs.Ytoolcamnmefpgaa.F
open Go Go.RowKit Go.Proofs.YtoolcamnmefpgaaW.PrintWords Go.Proofs.YtoolcamnmefpgaaW.PrintLast Go.Proofs.YtoolcamnmefpgaaW.PrintMore Go.Proofs.YtoolcamnmefpgaaM Go.Proofs.YtoolcamnmefpgaaR
attribute [local go_sem] max2_int min2_int max_two min_two
set_option linter.unusedSimpArgs false
set_option linter.unusedVariables false
set_option maxRecDepth 100000
/-- the texts that follow each other -/
def getLs (l : List Int) (most : Int) : Nat → Int → List ByteArray → List ByteArray × Int × Int
  | 0, k, acc => (acc, k, 0)
  | n + 1, k, acc => if (getT l k most).2.2 ≠ 0 then ([], 0, (getT l k most).2.2) else getLs l most n (getT l k most).2.1 (acc ++ [strOfNums (getT l k most).1])
def getLL (l : List Int) (a many most : Int) : List ByteArray × Int × Int :=
  if (getL l a).2.2 ≠ 0 then ([], 0, (getL l a).2.2) else if max many 0 < (getL l a).1 then ([], 0, 2) else getLs l most (getL l a).1.toNat (getL l a).2.1 []
/-- a text takes at least a byte, and lies in the bytes -/
theorem getT_ok {l : List Int} {a most : Int} (hb : ∀ x ∈ l, 0 ≤ x ∧ x < 256) (h : (getT l a most).2.2 = 0) : ∃ j : Nat, (getT l a most).2.1 = j ∧ a < j ∧ j ≤ l.length := by
  unfold getT at h ⊢
  simp only at h ⊢
  by_cases h1 : (getL l a).2.2 ≠ 0
  · rw [if_pos h1] at h; exact absurd h h1
  · rw [if_neg h1] at h ⊢
    obtain ⟨m, n, rfl, hn, hq, hle, _⟩ := getL_ok hb (Decidable.not_not.1 h1)
    have hp := putL_pos n
    rw [hq] at h ⊢
    simp only at h ⊢
    split at h
    · simp at h
    · rename_i h2
      rw [if_neg h2]
      split at h
      · simp at h
      · rename_i h3
        rw [if_neg h3]
        exact ⟨m + (putL n).length + n, by simp, by omega, by omega⟩
theorem rgetLs (s : ByteArray) (hs : s.size ≤ 100000) (most : Int) (hm : most ≤ 9223372036854775807) (N : Nat) (hN : N < 9223372036854775808) : ∀ (n k : Nat) (j : Int) (acc : List ByteArray) (i : Nat), n + i = N → s.size + 25 < k + acc.length → acc.length ≤ j → j ≤ s.size →
    strongroomref01_GetList.l0 k s most N j acc i = some (getLs (bytesOf s) most n j acc) := by
  intro n
  induction n with
  | zero =>
    intro k j acc i hni hk ha hj
    obtain ⟨k, rfl⟩ : ∃ m, k = m + 1 := ⟨k - 1, by omega⟩
    simp only [strongroomref01_GetList.l0, getLs]
    rw [if_neg (by omega)]
  | succ n ih =>
    intro k j acc i hni hk ha hj
    obtain ⟨k, rfl⟩ : ∃ m, k = m + 1 := ⟨k - 1, by omega⟩
    simp only [strongroomref01_GetList.l0, getLs]
    rw [if_pos (by omega)]
    have hT : strongroomref01_GetText.f k s j most = some (strOfNums (getT (bytesOf s) j most).1, (getT (bytesOf s) j most).2.1, (getT (bytesOf s) j most).2.2) :=
      at_rounds (g := fun k => strongroomref01_GetText.f k s j most) (fun k => strongroomref01_GetText.mono s j most k) (by omega : 24 ≤ k) (rgetT_f s (by omega) j most hm)
    rw [hT, obs]
    simp only
    by_cases he : (getT (bytesOf s) j most).2.2 = 0
    · rw [if_pos he, if_neg (show ¬ ((getT (bytesOf s) j most).2.2 ≠ 0) from fun h => h he)]
      obtain ⟨j', hj', h1, h2⟩ := getT_ok (bytesOf_byte s) he
      rw [bytesOf_length] at h2
      rw [if_pos (show acc.length < 8796093022208 from by omega), u64_wraps _ (by omega) (by omega), show (i : Int) + 1 = ((i + 1 : Nat) : Int) from by omega]
      exact ih k _ _ (i + 1) (by omega) (by simp; omega) (by simp; omega) (by omega)
    · rw [if_neg he, if_pos he]
theorem rgetLL_f (s : ByteArray) (hs : s.size ≤ 100000) (a many most : Int) (hm : many ≤ 9223372036854775807) (hm1 : most ≤ 9223372036854775807) : strongroomref01_GetList.f (s.size + 27) s a many most = some (getLL (bytesOf s) a many most) := by
  unfold strongroomref01_GetList.f
  have hg : strongroomref01_Get.f (s.size + 27) s a = some (getL (bytesOf s) a) :=
    at_rounds (g := fun k => strongroomref01_Get.f k s a) (fun k => strongroomref01_Get.mono s a k) (by omega : 24 ≤ s.size + 27) (rget_f s (by omega) a)
  rw [hg, obs]
  clear hg
  have hsl := bytesOf_length s
  by_cases he : (getL (bytesOf s) a).2.2 = 0
  · rw [if_pos he]
    obtain ⟨m, n, rfl, hn, hq, hle, _⟩ := getL_ok (bytesOf_byte s) he
    generalize m + (putL n).length = K at *
    have key : ∀ M : Int, M = max many 0 → strongroomref01_GetList.j0 (s.size + 27) s M most (getL (bytesOf s) m).1 (getL (bytesOf s) m).2.1 = some (getLL (bytesOf s) m many most) := by
      intro M hM
      unfold getLL
      rw [hq]
      simp only [strongroomref01_GetList.j0]
      rw [if_neg (show ¬ ((0 : Int) ≠ 0) from fun h => h rfl)]
      rw [u64_wraps M (by omega) (by omega)]
      by_cases h1 : (n : Int) > M
      · rw [if_pos h1, if_pos (show max many 0 < (n : Int) from by omega)]
      · rw [if_neg h1, if_neg (show ¬ max many 0 < (n : Int) from by omega), Int.toNat_natCast]
        exact rgetLs s hs most hm1 n (by omega) n _ _ [] 0 (by omega) (by simp) (by simp) (by omega)
    by_cases hm : many < 0
    · rw [if_pos hm]; exact key 0 (by omega)
    · rw [if_neg hm]; exact key many (by omega)
  · rw [if_neg he]
    unfold getLL
    rw [if_pos he]
/-- a row of texts, read -/
def Strs (l : List ByteArray) : World → Value → Prop := fun w v => ∃ A c, v = .slice A l.length c ∧ l.length ≤ c ∧ Kd.C Kd.string w A l.length l
def Strs3 (r : List ByteArray × Int × Int) : World → Value → Prop := fun w v => ∃ A c, v = .tuple #[.slice A r.1.length c, .int .i64 r.2.1, .int .i64 r.2.2] ∧ r.1.length ≤ c ∧ Kd.C Kd.string w A r.1.length r.1
theorem rgetLL_c (s : ByteArray) (a many most : Int) (w : World) (hs : s.size ≤ 100000) (hm : many ≤ 9223372036854775807) (hm1 : most ≤ 9223372036854775807) :
    Calls Try.prog 22 #[.string s, .int .i64 a, .int .i64 many, .int .i64 most] w (Tells w (Strs3 (getLL (bytesOf s) a many most))) := by
  refine (strongroomref01_GetList.calls (s.size + 27) s a many most _ _ _ w (rgetLL_f s hs a many most hm hm1)).mono fun e w' ⟨v, he, hR, hb⟩ => ?_
  obtain ⟨A, c, rfl, hc, hC⟩ := Kd.R_reads hR
  exact ⟨_, he, ⟨A, c, rfl, hc, hC⟩, hb⟩
theorem own_strs {w : World} {base n : Nat} {e : TypeId} {v : Value} {l : List ByteArray} (h : w.ownsRow base e 1 v n (encs Value.string l)) : ∃ A c, v = .slice A n c ∧ l.length = n ∧ n ≤ c ∧ Kd.C Kd.string w A n l := by
  have hl : l.length = n := by have := h.1; simp [encs] at this; exact this
  obtain ⟨A, c, rfl, hr⟩ := own_reads_of (d := ByteArray.empty) h
  exact ⟨A, c, rfl, hl, own_le h, Kd.C_of_reads (h1 := fun _ => rfl) hr⟩
/-- the same, as a row of the call's own -/
def Strs3o (base : Nat) (r : List ByteArray × Int × Int) : World → Value → Prop := fun w v => ∃ v0, v = .tuple #[v0, .int .i64 r.2.1, .int .i64 r.2.2] ∧ w.ownsRow base 9 1 v0 r.1.length (encs Value.string r.1)
set_option maxHeartbeats 4000000 in
theorem getLL_o (A : Option Addr) (c : Nat) (l : List Int) (a many most : Int) (w : World) (hr : Kd.C (Kd.int .u8) w A l.length l) (hc : l.length ≤ c) (hl : l.length ≤ 100000) (hb : ∀ x ∈ l, 0 ≤ x ∧ x < 256) (ha0 : -9223372036854775808 ≤ many) (ha1 : many ≤ 9223372036854775807) (hm0 : -9223372036854775808 ≤ most) (hm1 : most ≤ 9223372036854775807) :
    Calls Try.prog 21 #[.slice A l.length c, .int .i64 a, .int .i64 many, .int .i64 most] w (Tells w (Strs3o w.heap.size (getLL l a many most))) := by
  have hget := get_c A c l a w hr hc (by omega) hb
  obtain ⟨M, hM, hmx⟩ : ∃ M : Nat, max many 0 = (M : Int) ∧ (if many < 0 then (0 : Int) else many) = (M : Int) := ⟨(max many 0).toNat, by omega, by split <;> omega⟩
  have hM1 : (M : Int) ≤ 9223372036854775807 := by omega
  have HBy := Lib.hid hb
  by_cases he : (getL l a).2.2 = 0
  · obtain ⟨m, n, rfl, hn, hq, hle, hs⟩ := getL_ok hb he
    obtain ⟨K, hK⟩ : ∃ K, K = m + (putL n).length := ⟨_, rfl⟩
    rw [← hK] at hle hq
    rw [hq] at hget
    have HG := Lib.hid hget
    clear hget hs hK
    by_cases h1 : M < n
    · have hres : getLL l m many most = ([], 0, 2) := by
        unfold getLL; rw [hq]; simp only; rw [if_neg (by simp), if_pos (by omega)]
      rw [hres]
      clear hres hq he hb
      have d1 : decide (M < n) = true := decide_eq_true h1
      go_enter Try.func21, Try.ntmps21
      go_wp2_with fail
      refine HG.out.mono ?_
      rintro e w2 ⟨_, rfl, rfl, hg2⟩
      go_wp2_with fail
      go_ret3
      exact ⟨_, rfl, ⟨_, rfl, own_nil _ _ _ _⟩, hg2⟩
    have d1 : decide (M < n) = false := decide_eq_false h1
    have hres : getLL l m many most = getLs l most n K [] := by
      unfold getLL; rw [hq]; simp only; rw [if_neg (by simp), if_neg (by omega), Int.toNat_natCast]
    rw [hres]
    clear hres hq he hb
    obtain ⟨res, hres⟩ : ∃ res, res = getLs l most n K [] := ⟨_, rfl⟩
    rw [← hres]
    have HR := Lib.hid hres
    clear hres
    go_enter Try.func21, Try.ntmps21
    go_wp2_with fail
    refine HG.out.mono ?_
    rintro e w2 ⟨_, rfl, rfl, hg2⟩
    go_wp2_with fail
    go_loopw [12, 14, 34] (fun jv v i wr => ∃ (j k : Nat) (acc : List ByteArray), jv = .int .i64 (j : Int) ∧ i = .int .u64 (k : Int) ∧ k ≤ n ∧ acc.length = k ∧ j ≤ l.length ∧ acc.length ≤ j ∧ res = getLs l most (n - k) j acc ∧ wr.ownsRow w.heap.size 9 1 v acc.length (encs Value.string acc) ∧ Grew w wr) (fun _ _ i _ => n - (intOf i).toNat)
    case atStart => exact ⟨K, 0, [], rfl, rfl, by omega, rfl, hle, by simp, HR.out, own_nil _ _ _ _, hg2⟩
    case round =>
      obtain ⟨j, k, acc, rfl, rfl, hk, hal, hj, haj, hre, hown, hgr⟩ := hrel
      by_cases hlt : k < n
      · have d2 : decide (k < n) = true := decide_eq_true hlt
        go_wp2_with fail
        have hgt := getT_c A c l j most _ (Kd.C_below hr hgr) hc (by omega) HBy.out hm0 hm1
        rw [show n - k = (n - (k + 1)) + 1 from by omega] at hre
        simp only [getLs] at hre
        have hok := @getT_ok l j most HBy.out
        rcases hq : getT l j most with ⟨p, q, e0⟩
        rw [hq] at hgt hre hok
        simp only at hre hok
        have HT := Lib.hid hgt
        clear hgt hq
        by_cases he : e0 = 0
        · subst he
          obtain ⟨j', rfl, h3, h4⟩ := hok rfl
          rw [if_neg (by simp)] at hre
          clear hok
          refine HT.out.mono ?_
          clear HT
          rintro e w3 ⟨_, rfl, rfl, hg3⟩
          have hgr3 := hgr.trans hg3
          have hown3 := pw_own_below hown hg3
          clear hgr hown hg3
          go_wp2_with (at_builtin; refine print_append_of (w0 := w) Value.string w.heap.size rfl (.tmp 47) (.tmp 49) 38 9 (.string ⟨#[]⟩) 16 rfl Try.underlying38 info9 rfl (by decide) _ acc (strOfNums p) rfl rfl rfl hown3 hgr3 hgr3.size (by omega) ?_; intro v1 w4 hown4 hgr4 _ _)
          go_roundw
          case rel => exact ⟨j', k + 1, acc ++ [strOfNums p], rfl, by go_num, by omega, by simp; omega, by omega, by simp; omega, hre, hown4, hgr4⟩
          case measure => simp [intOf]; omega
        · rw [if_pos he] at hre
          subst hre
          have e1 : (e0 == 0) = false := by simpa using he
          have e2 : (e0 != 0) = true := by simpa using he
          refine HT.out.mono ?_
          clear HT
          rintro e w3 ⟨_, rfl, rfl, hg3⟩
          go_wp2_with fail
          go_ret3
          exact ⟨_, rfl, ⟨_, rfl, own_nil _ _ _ _⟩, hgr.trans hg3⟩
      · obtain rfl : k = n := by omega
        have d2 : decide (k < k) = false := decide_eq_false hlt
        go_wp2_with fail
        go_ret3
        rw [Nat.sub_self] at hre
        simp only [getLs] at hre
        subst hre
        exact ⟨_, rfl, ⟨_, rfl, hown⟩, hgr⟩
  · have hres : getLL l a many most = ([], 0, (getL l a).2.2) := by
      unfold getLL; rw [if_pos he]
    rw [hres]
    clear hres
    obtain ⟨h1, h2⟩ := getL_err he
    rcases hq : getL l a with ⟨p, q, e0⟩
    rw [hq] at hget he h1 h2
    simp only at h1 h2 he
    subst h1 h2
    have HG := Lib.hid hget
    clear hget hq hb
    have e1 : (e0 == 0) = false := by simpa using he
    have e2 : (e0 != 0) = true := by simpa using he
    go_enter Try.func21, Try.ntmps21
    go_wp2_with fail
    refine HG.out.mono ?_
    rintro e w2 ⟨_, rfl, rfl, hg2⟩
    go_wp2_with fail
    go_ret3
    exact ⟨_, rfl, ⟨_, rfl, own_nil _ _ _ _⟩, hg2⟩
theorem getLL_c (A : Option Addr) (c : Nat) (l : List Int) (a many most : Int) (w : World) (hr : Kd.C (Kd.int .u8) w A l.length l) (hc : l.length ≤ c) (hl : l.length ≤ 100000) (hb : ∀ x ∈ l, 0 ≤ x ∧ x < 256) (ha0 : -9223372036854775808 ≤ many) (ha1 : many ≤ 9223372036854775807) (hm0 : -9223372036854775808 ≤ most) (hm1 : most ≤ 9223372036854775807) :
    Calls Try.prog 21 #[.slice A l.length c, .int .i64 a, .int .i64 many, .int .i64 most] w (Tells w (Strs3 (getLL l a many most))) :=
  (getLL_o A c l a many most w hr hc hl hb ha0 ha1 hm0 hm1).mono fun e w' ⟨v, he, ⟨v0, hv, hown⟩, hb⟩ => by
    obtain ⟨A9, c9, rfl, _, hc9, hC9⟩ := own_strs hown
    exact ⟨v, he, ⟨A9, c9, hv, hc9, hC9⟩, hb⟩
end Go.Proofs.Ytoolcamnmefpgaa.F
