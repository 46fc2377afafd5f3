/- What PutList, the reference List, Same and small come to, in closed form. -/
import Derived.Test.YtoolcamnmefpgaaNumLs
import Derived.Test.YtoolcamnmefpgaaF10
namespace Go.Proofs.Ytoolcamnmefpgaa.F
open Go Go.RowKit Go.Proofs.YtoolcamnmefpgaaW.PrintWords Go.Proofs.YtoolcamnmefpgaaW.PrintLast Go.Proofs.YtoolcamnmefpgaaW.PrintMore Go.Proofs.YtoolcamnmefpgaaM Go.Proofs.YtoolcamnmefpgaaR
set_option linter.unusedSimpArgs false
set_option linter.unusedVariables false
set_option maxRecDepth 100000
/-- all bytes of the texts -/
def sizes (ss : List ByteArray) : Nat := (ss.map ByteArray.size).sum
theorem sizes_cons (s : ByteArray) (ss : List ByteArray) : sizes (s :: ss) = s.size + sizes ss := by simp [sizes]
theorem sizes_app (ss rs : List ByteArray) : sizes (ss ++ rs) = sizes ss + sizes rs := by simp [sizes]
theorem size_le {s : ByteArray} : ∀ {ss : List ByteArray}, s ∈ ss → s.size ≤ sizes ss
  | [], h => by simp at h
  | r :: rs, h => by
    rw [sizes_cons]
    rcases List.mem_cons.1 h with rfl | h
    · omega
    · have := size_le h; omega
def listL (ss : List ByteArray) : List Int := putL ss.length ++ ss.flatMap textL
theorem textL_len (s : ByteArray) (h : s.size < 18446744073709551616) : (textL s).length ≤ 10 + s.size := by
  have := putL_ten h
  unfold textL; rw [List.length_append, bytesOf_length]; omega
theorem cat_len : ∀ ss : List ByteArray, sizes ss < 18446744073709551616 → (ss.flatMap textL).length ≤ 10 * ss.length + sizes ss
  | [], _ => by simp
  | s :: ss, h => by
    rw [sizes_cons] at h
    have h1 := textL_len s (by omega)
    have h2 := cat_len ss (by omega)
    rw [List.flatMap_cons, List.length_append, sizes_cons, List.length_cons]; omega
theorem rd_mid (pre : List ByteArray) (s : ByteArray) (suf : List ByteArray) : rdOf ByteArray.empty (pre ++ s :: suf) (pre.length : Int) = s := by
  simp [rdOf]
theorem list_l0 (ss : List ByteArray) (hs : sizes ss ≤ 20000) (hl : ss.length ≤ 300) : ∀ (suf pre : List ByteArray) (k : Nat) (acc : List Int), ss = pre ++ suf → suf.length + 11 ≤ k → acc.length + 10 * suf.length + sizes suf ≤ 1000000 →
    num_PutList.l0 k acc ss (ss.length : Int) (pre.length : Int) = some (acc ++ suf.flatMap textL) := by
  intro suf
  induction suf with
  | nil =>
    intro pre k acc hp hk ha
    obtain ⟨k, rfl⟩ : ∃ m, k = m + 1 := ⟨k - 1, by omega⟩
    have : ss.length = pre.length := by rw [hp]; simp
    simp only [num_PutList.l0]
    rw [if_neg (by omega)]; simp
  | cons s suf ih =>
    intro pre k acc hp hk ha
    obtain ⟨k, rfl⟩ : ∃ m, k = m + 1 := ⟨k - 1, by omega⟩
    have hlen : ss.length = pre.length + suf.length + 1 := by rw [hp]; simp; omega
    rw [sizes_cons] at ha
    rw [List.length_cons] at ha hk
    have hput := putL_ten (n := s.size) (by omega)
    simp only [num_PutList.l0]
    rw [show rdOf ByteArray.empty ss (pre.length : Int) = s from by rw [hp]; exact rd_mid _ _ _]
    rw [if_pos (show (pre.length : Int) < (ss.length : Int) from by omega), if_pos (show (0 : Int) ≤ (pre.length : Int) from by omega), if_pos (show (pre.length : Int) < (ss.length : Int) from by omega), u64_wraps _ (by omega) (by omega), lay_f k s.size acc (by omega) (by omega) (by omega), obs, if_pos (by simp; omega), w64 (by omega) (by omega)]
    have := ih (pre ++ [s]) k (acc ++ putL s.size ++ bytesOf s) (by rw [hp]; simp) (by omega) (by simp [bytesOf_length]; omega)
    rw [show ((pre ++ [s]).length : Int) = (pre.length : Int) + 1 from by simp] at this
    rw [this]; simp [textL]
theorem putLL_c (A : Option Addr) (c : Nat) (l : List Int) (A1 : Option Addr) (c1 : Nat) (ss : List ByteArray) (w : World) (hr : Kd.C (Kd.int .u8) w A l.length l) (hc : l.length ≤ c) (hr1 : Kd.C Kd.string w A1 ss.length ss) (hc1 : ss.length ≤ c1) (hl : l.length ≤ 100000) (hs : sizes ss ≤ 20000) (hn : ss.length ≤ 300) :
    Calls Try.prog 23 #[.slice A l.length c, .slice A1 ss.length c1] w (Tells w (Row (l ++ listL ss))) := by
  refine (num_PutList.calls 400 A c l A1 c1 ss (l ++ listL ss) w hr hc hr1 hc1 ?_).mono fun e w' ⟨v, he, hR, hb⟩ => ⟨v, he, row_of_R hR, hb⟩
  unfold num_PutList.f
  have := putL_ten (n := ss.length) (by omega)
  rw [own_f l (by omega), obs, u64_wraps _ (by omega) (by omega), lay_f 400 ss.length l (by omega) (by omega) (by omega), obs]
  have := list_l0 ss hs hn ss [] 400 (l ++ putL ss.length) rfl (by omega) (by simp; omega)
  rw [show (([] : List ByteArray).length : Int) = 0 from rfl] at this
  rw [this]; simp [listL]
theorem same_l0 (ss : List ByteArray) (hn : ss.length ≤ 9223372036854775807) : ∀ (suf pre : List ByteArray) (k : Nat), ss = pre ++ suf → suf.length + 1 ≤ k → strongroomref01_Same.l0 k ss ss (pre.length : Int) = some true := by
  intro suf
  induction suf with
  | nil =>
    intro pre k hp hk
    obtain ⟨k, rfl⟩ : ∃ m, k = m + 1 := ⟨k - 1, by omega⟩
    have : ss.length = pre.length := by rw [hp]; simp
    simp only [strongroomref01_Same.l0]
    rw [if_neg (by omega)]
  | cons s suf ih =>
    intro pre k hp hk
    obtain ⟨k, rfl⟩ : ∃ m, k = m + 1 := ⟨k - 1, by omega⟩
    have hlen : ss.length = pre.length + suf.length + 1 := by rw [hp]; simp; omega
    rw [List.length_cons] at hk
    simp only [strongroomref01_Same.l0]
    rw [if_pos (show (pre.length : Int) < (ss.length : Int) from by omega), if_pos (show (0 : Int) ≤ (pre.length : Int) from by omega), if_pos (show (pre.length : Int) < (ss.length : Int) from by omega), if_pos trivial, w64 (by omega) (by omega)]
    have := ih (pre ++ [s]) k (by rw [hp]; simp) (by omega)
    rwa [show ((pre ++ [s]).length : Int) = (pre.length : Int) + 1 from by simp] at this
theorem same_c (A : Option Addr) (c : Nat) (A1 : Option Addr) (c1 : Nat) (ss : List ByteArray) (w : World) (hr : Kd.C Kd.string w A ss.length ss) (hc : ss.length ≤ c) (hr1 : Kd.C Kd.string w A1 ss.length ss) (hc1 : ss.length ≤ c1) (hn : ss.length ≤ 9223372036854775807) :
    Calls Try.prog 25 #[.slice A ss.length c, .slice A1 ss.length c1] w (Tells w (Is (.bool true))) := by
  refine tells_is ((strongroomref01_Same.calls (ss.length + 1) A c ss A1 c1 ss _ w hr hc hr1 hc1 ?_).mono fun _ _ ⟨h, k⟩ => ⟨h, drawn_below k⟩)
  unfold strongroomref01_Same.f
  rw [if_pos rfl]
  exact same_l0 ss hn ss [] _ rfl (by omega)
theorem small_l0 (ss : List ByteArray) (hb : ∀ s ∈ ss, s.size ≤ 140737488351232) (hn : ss.length ≤ 300) : ∀ (suf pre : List ByteArray) (k t : Nat), ss = pre ++ suf → suf.length + 1 ≤ k → t ≤ 1000000000000000 → ∃ b, strongroomlaw01_small.l0 k ss (t : Int) (pre.length : Int) = some b ∧ (b = true → t + sizes suf ≤ 20000) := by
  intro suf
  induction suf with
  | nil =>
    intro pre k t hp hk ht
    obtain ⟨k, rfl⟩ : ∃ m, k = m + 1 := ⟨k - 1, by omega⟩
    have : ss.length = pre.length := by rw [hp]; simp
    simp only [strongroomlaw01_small.l0]
    rw [if_neg (by omega)]
    exact ⟨_, rfl, fun h => by have := of_decide_eq_true h; simp [sizes]; omega⟩
  | cons s suf ih =>
    intro pre k t hp hk ht
    obtain ⟨k, rfl⟩ : ∃ m, k = m + 1 := ⟨k - 1, by omega⟩
    have hlen : ss.length = pre.length + suf.length + 1 := by rw [hp]; simp; omega
    have hsz := hb s (by rw [hp]; simp)
    rw [List.length_cons] at hk
    simp only [strongroomlaw01_small.l0]
    rw [show rdOf ByteArray.empty ss (pre.length : Int) = s from by rw [hp]; exact rd_mid _ _ _]
    rw [if_pos (show (pre.length : Int) < (ss.length : Int) from by omega), if_pos (show (0 : Int) ≤ (pre.length : Int) from by omega)]
    by_cases h : (t : Int) ≤ 20000
    · rw [if_pos h, w64 (x := (t : Int) + (s.size : Int)) (by omega) (by omega), w64 (by omega) (by omega)]
      obtain ⟨b, h1, h2⟩ := ih (pre ++ [s]) k (t + s.size) (by rw [hp]; simp) (by omega) (by omega)
      rw [show ((pre ++ [s]).length : Int) = (pre.length : Int) + 1 from by simp, show ((t + s.size : Nat) : Int) = (t : Int) + (s.size : Int) from by omega] at h1
      exact ⟨b, h1, fun h => by have := h2 h; rw [sizes_cons]; omega⟩
    · rw [if_neg h]
      exact ⟨_, rfl, fun h' => absurd (of_decide_eq_true h') h⟩
theorem smalls_c (A : Option Addr) (c : Nat) (l : List Int) (A1 : Option Addr) (c1 : Nat) (ss : List ByteArray) (hb : ∀ s ∈ ss, s.size ≤ 140737488351232) (hc : l.length ≤ c) (hc1 : ss.length ≤ c1) : ∃ b, (b = true → l.length ≤ 20000 ∧ ss.length ≤ 300 ∧ sizes ss ≤ 20000) ∧ ∀ w, Kd.C (Kd.int .u8) w A l.length l → Kd.C Kd.string w A1 ss.length ss →
    Calls Try.prog 10 #[.slice A l.length c, .slice A1 ss.length c1] w (Tells w (Is (.bool b))) := by
  have key : ∃ b, strongroomlaw01_small.f 400 l ss = some b ∧ (b = true → l.length ≤ 20000 ∧ ss.length ≤ 300 ∧ sizes ss ≤ 20000) := by
    unfold strongroomlaw01_small.f
    by_cases h : (l.length : Int) > 20000
    · rw [if_pos h]; simp only [strongroomlaw01_small.j0, if_true]; exact ⟨_, rfl, fun h => by simp at h⟩
    · rw [if_neg h]
      by_cases h2 : (ss.length : Int) > 300
      · rw [decide_eq_true h2]; simp only [strongroomlaw01_small.j0, if_true]; exact ⟨_, rfl, fun h => by simp at h⟩
      · rw [decide_eq_false h2]; simp only [strongroomlaw01_small.j0]
        rw [if_neg (by simp)]
        obtain ⟨b, h3, h4⟩ := small_l0 ss hb (by omega) ss [] 399 0 rfl (by omega) (by omega)
        exact ⟨b, h3, fun h => ⟨by omega, by omega, by have := h4 h; omega⟩⟩
  obtain ⟨b, h1, h2⟩ := key
  exact ⟨b, h2, fun w hr hr1 => tells_is ((strongroomlaw01_small.calls 400 A c l A1 c1 ss _ w hr hc hr1 hc1 h1).mono fun _ _ ⟨h, k⟩ => ⟨h, drawn_below k⟩)⟩
theorem S_cell {A : Option Addr} {ss : List ByteArray} {w : World} (hr : Kd.C Kd.string w A ss.length ss) (hn : 0 < ss.length) : ∃ ad, A = some ad ∧ ∀ i : Nat, i < ss.length → w.cell? (ad.add i) = some (.string (ss.getD i ByteArray.empty)) := by
  have h := Kd.reads_of_C (enc := Value.string) (d := ByteArray.empty) (h1 := fun _ => rfl) hr
  obtain ⟨ad, ha, _⟩ := h.at_ 0 (by omega) (by omega)
  refine ⟨ad, ha, fun i hi => ?_⟩
  obtain ⟨ad', ha', hc⟩ := h.at_ i (by omega) (by omega)
  rw [ha] at ha'
  obtain rfl := Option.some.inj ha'
  simpa [rdOf] using hc
theorem getD_mid (pre : List ByteArray) (s : ByteArray) (suf : List ByteArray) : (pre ++ s :: suf).getD pre.length ByteArray.empty = s := by
  simp [List.getD]
theorem str_text' (s : ByteArray) : strOfNums (putL s.size) ++ s = strOfNums (textL s) := by
  have := str_append (putL s.size) (bytesOf s)
  rw [str_bytesOf] at this
  exact this
set_option maxHeartbeats 4000000 in
theorem rlist_c (A : Option Addr) (c : Nat) (ss : List ByteArray) (w : World) (hr : Kd.C Kd.string w A ss.length ss) (hc : ss.length ≤ c) (hs : sizes ss ≤ 20000) (hn : ss.length ≤ 300) :
    Calls Try.prog 24 #[.slice A ss.length c] w (Tells w (Is (.string (strOfNums (listL ss))))) := by
  go_enter Try.func24, Try.ntmps24
  go_wp2_with fail
  refine (rput_c ss.length _ (by omega)).mono ?_
  rintro e w2 ⟨_, rfl, rfl, hg2⟩
  go_wp2_with fail
  go_loopw [3, 4] (fun t i wr => ∃ pre suf : List ByteArray, ss = pre ++ suf ∧ i = .int .i64 (pre.length : Int) ∧ t = .string (strOfNums (putL ss.length ++ pre.flatMap textL)) ∧ Grew w wr) (fun _ i _ => ss.length - (intOf i).toNat)
  case atStart => exact ⟨[], ss, rfl, rfl, by simp, hg2⟩
  case round =>
    obtain ⟨pre, suf, hp, rfl, rfl, hgr⟩ := hrel
    rcases suf with _ | ⟨s, suf⟩
    · have hlen : ss.length = pre.length := by rw [hp]; simp
      have hres : strOfNums (listL ss) = strOfNums (putL ss.length ++ pre.flatMap textL) := by unfold listL; rw [show ss.flatMap textL = pre.flatMap textL from by rw [hp]; simp]
      have d2 : decide (pre.length < ss.length) = false := decide_eq_false (by omega)
      have HQ := Lib.hid hres
      clear hres hp hlen
      go_wp2_with fail
      go_ret
      exact ⟨_, rfl, (congrArg Value.string HQ.out).symm, hgr⟩
    · have hlen : ss.length = pre.length + suf.length + 1 := by rw [hp]; simp; omega
      obtain ⟨ad, rfl, hcell⟩ := S_cell hr (by omega)
      have hcs := hcell pre.length (by omega)
      rw [show ss.getD pre.length ByteArray.empty = s from by rw [hp]; exact getD_mid _ _ _] at hcs
      clear hcell
      have Hcs := Lib.hid hcs
      clear hcs
      have h1 : sizes pre + s.size ≤ 20000 := by rw [hp, sizes_app, sizes_cons] at hs; omega
      have h2 := cat_len pre (by omega)
      have h3 := putL_ten (n := ss.length) (by omega)
      have h4 := putL_ten (n := s.size) (by omega)
      have hz : ¬ (9223372036854775807 < (strOfNums (putL ss.length ++ pre.flatMap textL)).size + ((strOfNums (putL s.size)).size + s.size)) := by rw [str_size, str_size, List.length_append]; omega
      have he : strOfNums (putL ss.length ++ pre.flatMap textL) ++ (strOfNums (putL s.size) ++ s) = strOfNums (putL ss.length ++ (pre ++ [s]).flatMap textL) := by rw [str_text', str_append]; simp
      have Hz := Lib.hid hz
      have He := Lib.hid he
      have Hp := Lib.hid hp
      clear hz he hp h2 h3 h4
      have d2 : decide (pre.length < ss.length) = true := decide_eq_true (by omega)
      have hlt : pre.length < ss.length := by omega
      have hs2 : s.size ≤ 20000 := by omega
      clear hlen h1
      have e := pw_cell_below hgr Hcs.out
      go_wp2_with fail
      refine (rtext_c s _ (by omega)).mono ?_
      rintro e w3 ⟨_, rfl, rfl, hg3⟩
      have hz := Hz.out
      have he := He.out
      go_wp2_with fail
      go_roundw
      case rel => exact ⟨pre ++ [s], suf, by simpa using Hp.out, by simp, by simp, hgr.trans hg3⟩
      case measure => simp [intOf]; omega
end Go.Proofs.Ytoolcamnmefpgaa.F
