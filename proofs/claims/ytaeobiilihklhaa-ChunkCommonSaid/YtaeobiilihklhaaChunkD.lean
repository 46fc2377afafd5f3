/- The function Cut of the package chunk: the chunks of a text; and the answer that the laws ask for. -/
import Derived.Test.YtaeobiilihklhaaChunkW
import Derived.Test.YtaeobiilihklhaaF13
namespace Go.Proofs.Ytaeobiilihklhaa.F
open Go Go.RowKit Go.Proofs.YtaeobiilihklhaaW.PrintWords Go.Proofs.YtaeobiilihklhaaW.PrintLast Go.Proofs.YtaeobiilihklhaaW.PrintMore Go.Proofs.YtaeobiilihklhaaM Go.Proofs.YtaeobiilihklhaaR
attribute [local go_sem] max2_int min2_int max_two min_two
set_option linter.unusedSimpArgs false
set_option linter.unusedVariables false
set_option maxRecDepth 100000
/-- texts in a row of the call's own, and no error -/
def Strs2o (base : Nat) (ss : List ByteArray) : World → Value → Prop := fun w v => ∃ v0, v = .tuple #[v0, .int .i64 0] ∧ w.ownsRow base 9 1 v0 ss.length (encs Value.string ss)
theorem cut_no (t : ByteArray) (lo hi bits : Int) (w : World) (hm : ¬ mayM lo hi bits) : Calls Try.prog 10 #[.string t, .agg #[.int .i64 lo, .int .i64 hi, .int .i64 bits]] w (Tells w (Is (.tuple #[.slice none 0 0, .int .i64 1]))) := by
  have HC := Lib.hid (fun w => cnew_no lo hi bits w hm)
  clear hm
  go_enter Try.func10, Try.ntmps10
  go_wp2_with fail
  refine (HC.out _).mono ?_
  rintro e w1 ⟨_, rfl, rfl, hg1⟩
  go_wp2_with fail
  go_ret2
  exact ⟨_, rfl, rfl, (Grew.alloc _ _).trans hg1⟩
set_option maxHeartbeats 4000000 in
theorem cut_c (t : ByteArray) (lo hi bits : Int) (w : World) (hm : mayM lo hi bits) (ht : t.size ≤ 100000) : Calls Try.prog 10 #[.string t, .agg #[.int .i64 lo, .int .i64 hi, .int .i64 bits]] w (Tells w (Strs2o w.heap.size (strs (chunksL lo hi bits (bytesOf t))))) := by
  have HC := Lib.hid (fun w => cnew_c lo hi bits w hm)
  have hby := fun W => print_bytes (P := Try.prog) 9 42 5 Try.underlying9 Try.underlying42 Try.underlying5 t W
  have HM := Lib.hid hm
  have hlo : (0 : Int) < hi := by have h1 := hm.1; have h2 := hm.2.1; omega
  clear hm
  go_enter Try.func10, Try.ntmps10
  go_wp2_with fail
  refine (HC.out _).mono ?_
  rintro e w1 ⟨_, rfl, ⟨gc, g, gb, rfl, hcut⟩, hg1⟩
  have hB : (w.alloc (Obj.cells #[Value.int IntKind.i64 lo, Value.int IntKind.i64 hi, Value.int IntKind.i64 bits] 23)).heap.size ≤ w1.heap.size := hg1.size
  have hgb : Grew w1 (Lib.bytesWorld w1 5 t) := bytes_below (Below.refl _ _) (Nat.le_refl _) _ _
  have hlt := hcut.win.lt
  have hlc := hcut.cells.lt
  have hWr := write_c (Lib.bytesWorld w1 5 t) (some ⟨w1.heap.size, 0, none⟩) (grownCap w1 t.size 0 5) (bytesOf t) (hcut.grew hgb) HM.out (by simpa using hlo) (Nat.le_trans hB hgb.size)
    (fun w' hu => C_upd (C_of (by rw [bytesOf_length]; exact bytes_reads w1 5 t (by omega))) hu (fun ad hA hS => by
      injection hA with hA
      subst hA
      rcases hS with h | h | h | h
      · simp only at h; omega
      · simp only at h; omega
      · simp only at h; omega
      · simp [Value.ownBlock] at h)) (by rw [bytesOf_length]; exact grownCap_ge _ _ _ _) (by rw [bytesOf_length]; exact ht) (fun x hx => by
      obtain ⟨b, _, rfl⟩ := List.mem_map.1 hx
      have := b.toNat_lt
      omega)
  rw [bytesOf_length] at hWr
  obtain ⟨res, hres⟩ : ∃ res, res = cutRun lo hi bits [] [] (bytesOf t) [] := ⟨_, rfl⟩
  have hfin : chunksL lo hi bits (bytesOf t) = res.1 ++ opt res.2.2 := by rw [hres]; rfl
  rw [← hres] at hWr
  have HWr := Lib.hid hWr
  have HF := Lib.hid hfin
  have HL := Lib.hid (show res.1.length ≤ 100000 by
    have := cutRun_len lo hi bits (bytesOf t) [] [] []
    rw [hres]
    rw [bytesOf_length] at this
    simp at this ⊢; omega)
  clear hWr hfin hres
  go_wp2_with fail
  refine HWr.out.mono ?_
  rintro e w3 ⟨v3, rfl, ⟨hown, vb, hcut3, hfr⟩, hu3⟩
  go_wp2_with fail
  refine (end_c w3 hcut3).mono ?_
  rintro e w4 ⟨_, rfl, ⟨rfl, vb4, hcut4, hfr4⟩, hu4⟩
  have hown4 := hu4.own hown (hcut3.own_far hown (by decide) (by decide) (by decide))
  have hBs : w.heap.size + 1 = (w.alloc (Obj.cells #[Value.int IntKind.i64 lo, Value.int IntKind.i64 hi, Value.int IntKind.i64 bits] 23)).heap.size := by simp
  have hgw1 : Grew w w1 := (Grew.alloc _ _).trans hg1
  have hgw2 : Grew w (Lib.bytesWorld w1 5 t) := hgw1.trans hgb
  have hk1 := hcut.b1
  have hk2 := hcut.b2
  have hk3 := hcut.b3
  have hgs2 := hgb.size
  have hgw3 : Grew w w3 := Below.trans hgw2 (hu3.below (B := w.heap.size) hgw2.size (fun i hi => by
    rcases hi with rfl | rfl | rfl | h
    · omega
    · omega
    · omega
    · simp [Value.ownBlock] at h))
  have hgw4 : Grew w w4 := Below.trans hgw3 (hu4.below (B := w.heap.size) hgw3.size (fun i hi => by
    rcases hi with rfl | rfl | rfl | h
    · omega
    · omega
    · omega
    · rcases hfr i h with h | h
      · simp [Value.ownBlock] at h
      · omega))
  have hown5 := own_weaken hown4 (base' := w.heap.size) (by omega)
  clear hown hown4 hBs hk1 hk2 hk3 hgw1 hgw2 hgw3 hu4 hu3 hcut3 hcut4 hfr hfr4 hcut hlt hlc hgs2 hgb hB hby
  rcases he : res.2.2 with _ | ⟨x, l⟩
  · rw [he] at HF
    have hd : (!([] : List Int).isEmpty) = false := rfl
    rw [hd]
    go_wp2_with fail
    go_ret2
    refine ⟨_, rfl, ⟨_, rfl, ?_⟩, hgw4⟩
    rw [HF.out]
    simpa [strs, opt] using hown5
  · rw [he] at HF
    have hd : (!(x :: l).isEmpty) = true := rfl
    rw [hd]
    have hlen := HL.out
    obtain ⟨vn, wn, hrn, hown8, hgr8, hat8⟩ := app_row (P := Try.prog) Value.string ByteArray.empty (fun _ => rfl) (w4.alloc (.cells #[.string (strOfNums (x :: l))] 9)) w.heap.size 25 9 25 (.string ⟨#[]⟩) 16 Try.underlying25 info9 rfl (by decide) _ (strs res.1) [strOfNums (x :: l)] _ 1 1 (by rw [strs_len]; exact hown5.alloc _) ((Blk.new w4 9 (encs Value.string [strOfNums (x :: l)])).reads_of (by simp)) (by have := hgw4.size; simp; omega) (by rw [strs_len]; omega)
    have hU8 := Upd.of_alloc_grown hgr8
    have hgw5 : Grew w wn := Below.trans hgw4 (hU8.below (B := w.heap.size) hgw4.size (fun i hi => own_base hown5 i hi))
    have Hown8 := Lib.hid hown8
    clear hown8 hU8 hgr8 hown5
    go_wp2_with (at_builtin; refine wpList_app (by rfl) (.tmp 29) (.tmp 31) 25 (by rfl) (by rfl) (by rfl) hrn ?_)
    go_ret2
    refine ⟨_, rfl, ⟨_, rfl, ?_⟩, hgw5⟩
    rw [HF.out]
    have := Hown8.out
    simpa [strs, opt] using this
theorem same_l0 (ss : List ByteArray) (hn : ss.length ≤ 9223372036854775807) : ∀ (suf pre : List ByteArray) (k : Nat), ss = pre ++ suf → suf.length + 1 ≤ k → strongroomref17_Same.l0 k ss ss (pre.length : Int) = some true := by
  intro suf
  induction suf with
  | nil =>
    intro pre k hp hk
    obtain ⟨k, rfl⟩ : ∃ m, k = m + 1 := ⟨k - 1, by omega⟩
    have : ss.length = pre.length := by rw [hp]; simp
    simp only [strongroomref17_Same.l0]
    rw [if_neg (by omega)]
  | cons s suf ih =>
    intro pre k hp hk
    obtain ⟨k, rfl⟩ : ∃ m, k = m + 1 := ⟨k - 1, by omega⟩
    have hlen : ss.length = pre.length + suf.length + 1 := by rw [hp]; simp; omega
    rw [List.length_cons] at hk
    simp only [strongroomref17_Same.l0]
    rw [if_pos (show (pre.length : Int) < (ss.length : Int) from by omega), if_pos (show (0 : Int) ≤ (pre.length : Int) from by omega), if_pos (show (pre.length : Int) < (ss.length : Int) from by omega), if_pos trivial, w64 (by omega) (by omega)]
    have := ih (pre ++ [s]) k (by rw [hp]; simp) (by omega)
    rwa [show ((pre ++ [s]).length : Int) = (pre.length : Int) + 1 from by simp] at this
theorem same_c (A : Option Addr) (c : Nat) (A1 : Option Addr) (c1 : Nat) (ss : List ByteArray) (w : World) (hr : Kd.C Kd.string w A ss.length ss) (hc : ss.length ≤ c) (hr1 : Kd.C Kd.string w A1 ss.length ss) (hc1 : ss.length ≤ c1) (hn : ss.length ≤ 9223372036854775807) :
    Calls Try.prog 13 #[.slice A ss.length c, .slice A1 ss.length c1] w (Tells w (Is (.bool true))) := by
  refine tells_is ((strongroomref17_Same.calls (ss.length + 1) A c ss A1 c1 ss _ w hr hc hr1 hc1 ?_).mono fun _ _ ⟨h, k⟩ => ⟨h, drawn_below k⟩)
  unfold strongroomref17_Same.f
  rw [if_pos rfl]
  exact same_l0 ss hn ss [] _ rfl (by omega)
theorem own_strs {w : World} {base n : Nat} {e : TypeId} {v : Value} {l : List ByteArray} (h : w.ownsRow base e 1 v n (encs Value.string l)) : ∃ A c, v = .slice A n c ∧ l.length = n ∧ n ≤ c ∧ Kd.C Kd.string w A n l := by
  have hl : l.length = n := by have := h.1; simp [encs] at this; exact this
  obtain ⟨A, c, rfl, hr⟩ := own_reads_of (d := ByteArray.empty) h
  exact ⟨A, c, rfl, hl, own_le h, Kd.C_of_reads (h1 := fun _ => rfl) hr⟩
theorem chunks_abcde : strs (chunksL 2 9 0 (bytesOf ⟨#[97, 98, 99, 100, 101]⟩)) = [⟨#[97, 98]⟩, ⟨#[99, 100]⟩, ⟨#[101]⟩] := by
  have e : chunksL 2 9 0 (bytesOf ⟨#[97, 98, 99, 100, 101]⟩) = [[97, 98], [99, 100], [101]] := by decide +kernel
  rw [e]; rfl
theorem lives_c (w : World) : Calls Try.prog 9 #[] w (Tells w (Is (.bool true))) := by
  have hc := cut_c ⟨#[97, 98, 99, 100, 101]⟩ 2 9 0 w ⟨by omega, by omega, by omega, by omega, by omega⟩ (by decide)
  rw [chunks_abcde] at hc
  have HC := Lib.hid hc
  clear hc
  go_enter Try.func9, Try.ntmps9
  go_wp2_with fail
  refine HC.out.mono ?_
  rintro e w1 ⟨_, rfl, ⟨v0, rfl, hown⟩, hg1⟩
  obtain ⟨A, c, rfl, -, hcc, hC⟩ := own_strs hown
  have hlit := (Blk.new w1 9 (encs Value.string [(⟨#[97, 98]⟩ : ByteArray), ⟨#[99, 100]⟩, ⟨#[101]⟩])).reads_of (d := ByteArray.empty) (by simp)
  have hCl := Kd.C_of_reads (h1 := fun _ => rfl) hlit
  have hs := same_c A c (some ⟨w1.heap.size, 0, none⟩) 3 _ _ (Kd.C_below hC (Grew.alloc w1 _)) hcc hCl (by simp) (by simp)
  have HS := Lib.hid hs
  clear hs hlit hCl hC hown
  go_wp2_with fail
  refine HS.out.mono ?_
  rintro e w2 ⟨_, rfl, rfl, hg2⟩
  go_wp2
  go_ret
  exact ⟨_, rfl, rfl, hg1.trans (Grew.trans (Grew.alloc w1 _) hg2)⟩
end Go.Proofs.Ytaeobiilihklhaa.F
