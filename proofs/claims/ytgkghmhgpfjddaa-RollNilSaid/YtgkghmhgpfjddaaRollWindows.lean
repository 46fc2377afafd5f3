/- The law RollWindows: its call returns true, for any size and any numbers put into a window: it has the last bytes and their sum. -/
import Derived.Test.YtgkghmhgpfjddaaRollSums
import Derived.Test.YtgkghmhgpfjddaaWinB
import Derived.Test.YtgkghmhgpfjddaaF20
namespace Go.Proofs.Ytgkghmhgpfjddaa.F
open Go Go.RowKit Go.Proofs.YtgkghmhgpfjddaaW.PrintWords Go.Proofs.YtgkghmhgpfjddaaW.PrintLast Go.Proofs.YtgkghmhgpfjddaaW.PrintMore Go.Proofs.YtgkghmhgpfjddaaM Go.Proofs.YtgkghmhgpfjddaaR
set_option linter.unusedSimpArgs false
set_option linter.unusedVariables false
set_option maxRecDepth 100000
theorem str_extract (l : List Int) (k : Nat) : (strOfNums l).extract k (strOfNums l).size = strOfNums (l.drop k) := by
  apply ByteArray.ext
  apply Array.ext'
  simp only [strOfNums, ByteArray.size, ByteArray.data_extract, Array.toList_extract, List.extract_eq_take_drop, List.size_toArray, List.length_map, List.map_drop]
  exact List.take_of_length_le (by simp)
theorem last_c (s : List Int) (size : Nat) (w : World) (hs : s.length ≤ 100000) (hz : size ≤ 100000) : Calls Try.prog 20 #[.string (strOfNums s), .int .i64 size] w (Tells w (Is (.string (strOfNums (lastL size s))))) := by
  refine tells_is ((strongroomref04_Last.calls _ _ _ w ?_).mono fun _ _ ⟨h, k⟩ => ⟨h, drawn_below k⟩)
  unfold strongroomref04_Last.f
  rw [str_size]
  by_cases h : (s.length : Int) ≤ (size : Int)
  · rw [if_pos h, lastL_short (by omega)]
  · rw [if_neg h, w64 (by omega) (by omega), if_pos (by omega), if_pos (by omega), show ((s.length : Int) - (size : Int)).toNat = s.length - size from by omega]
    have := str_extract s (s.length - size)
    rw [str_size] at this
    rw [this]; rfl
theorem own_str {w : World} {base : Nat} {s : List Int} {v : Value} (h : Own base s w v) : ∃ A c, v = .slice A s.length c ∧ s.length ≤ c ∧ Kd.C (Kd.int .u8) w A s.length s := by
  obtain ⟨A, c, hv, _, hc, hC⟩ := own_C h
  exact ⟨A, c, hv, hc, hC⟩
theorem row_cell {w : World} {k : IntKind} {A : Option Addr} {l : List Int} (h : Kd.C (Kd.int k) w A l.length l) (i : Nat) (hi : i < l.length) : ∃ ad, A = some ad ∧ w.cell? (ad.add i) = some (.int k (l.getD i 0)) := by
  obtain ⟨ad, hA, hc⟩ := (reads_of h).at_ (i : Int) (by omega) (by omega)
  exact ⟨ad, hA, by simpa [rd] using hc⟩
theorem wf_i64 {x : Int} (h : (Lit.int .i64 x).wf = true) : -9223372036854775808 ≤ x ∧ x ≤ 9223372036854775807 := by
  simp [Lit.wf, IntKind.min, IntKind.max, IntKind.bits, IntKind.signed] at h; omega
set_option maxHeartbeats 4000000 in
theorem RollWindows_c (w : World) (a0 : Int) (A : Option Addr) (c : Nat) (l : List Int) (h0 : (Lit.int .i64 a0).wf = true) (hr : Kd.C (Kd.int .i64) w A l.length l) (hc : l.length ≤ c) (hm : l.length ≤ maxLen) (hy : l.length * 8 ≤ 140737488351232) (hw : ∀ x ∈ l, (Lit.int .i64 x).wf = true) :
    Calls Try.prog 8 #[.int .i64 a0, .slice A l.length c] w (Tells w (Is (.bool true))) := by
  have H0 := Lib.hid h0
  have HWf := Lib.hid hw
  clear h0 hw
  by_cases hs : a0 < 1 ∨ 65536 < a0
  · have HN := Lib.hid (new_no a0 w hs)
    rcases hs with h | h
    · go_enter Try.func8, Try.ntmps8
      go_wp2_with fail
      refine HN.out.mono ?_
      rintro e w2 ⟨_, rfl, rfl, hg2⟩
      go_wp2_with fail
      refine (lives_c _).mono ?_
      rintro e w3 ⟨_, rfl, rfl, hg3⟩
      go_wp2
      go_ret
      exact ⟨_, rfl, rfl, hg2.trans hg3⟩
    · have h' : ¬ (a0 < 1) := by omega
      go_enter Try.func8, Try.ntmps8
      go_wp2_with fail
      refine HN.out.mono ?_
      rintro e w2 ⟨_, rfl, rfl, hg2⟩
      go_wp2_with fail
      refine (lives_c _).mono ?_
      rintro e w3 ⟨_, rfl, rfl, hg3⟩
      go_wp2
      go_ret
      exact ⟨_, rfl, rfl, hg2.trans hg3⟩
  · obtain ⟨size, rfl⟩ : ∃ size : Nat, a0 = size := ⟨a0.toNat, by omega⟩
    have hs1 : ¬ ((size : Int) < 1) := by omega
    have hs2 : ¬ (65536 < (size : Int)) := by omega
    have HN := Lib.hid (new_c size w (by omega) (by omega))
    clear hs
    by_cases hbig : 2000 < (size : Int)
    · go_enter Try.func8, Try.ntmps8
      go_wp2_with fail
      refine HN.out.mono ?_
      rintro e w2 ⟨_, rfl, ⟨g, gb, rfl, hg, hgb, hne, hwin⟩, hg2⟩
      go_wp2_with fail
      refine (lives_c _).mono ?_
      rintro e w3 ⟨_, rfl, rfl, hg3⟩
      go_wp2
      go_ret
      exact ⟨_, rfl, rfl, hg2.trans hg3⟩
    · go_enter Try.func8, Try.ntmps8
      go_wp2_with fail
      refine HN.out.mono ?_
      rintro e w2 ⟨_, rfl, ⟨g, gb, rfl, hg, hgb, hne, hwin⟩, hg2⟩
      go_wp2_with fail
      go_loopw [7, 8] (fun sv iv wr => ∃ (k : Nat) (s : List Int), iv = .int .i64 (k : Int) ∧ k ≤ l.length ∧ k ≤ 200 ∧ s.length ≤ size ∧ sv = .string (strOfNums s) ∧ WinB g gb size s wr ∧ Grew w wr) (fun _ iv _ => l.length - (intOf iv).toNat)
      case atStart => exact ⟨0, [], rfl, by omega, by omega, by simp, rfl, hwin, hg2⟩
      case round =>
        obtain ⟨k, s, rfl, hk, hk2, hsl, rfl, hW, hgr⟩ := hrel
        by_cases hlt : k < l.length
        · have d1 : decide (k < l.length) = true := decide_eq_true hlt
          by_cases hlt2 : (k : Int) < 200
          · obtain ⟨ad, rfl, hcell⟩ := row_cell (Kd.C_below hr hgr) k hlt
            obtain ⟨x, hx⟩ : ∃ x, x = l.getD k 0 := ⟨_, rfl⟩
            rw [← hx] at hcell
            have HX := Lib.hid hx
            clear hx
            by_cases hneg : x < 0
            · go_wp2_with fail
              refine (clear_c g gb size s _ hW).mono ?_
              rintro e w3 ⟨_, rfl, ⟨rfl, hW3⟩, hu3⟩
              have hgr3 : Grew w w3 := Below.trans hgr (hu3.below (B := w.heap.size) hgr.size (fun i hi => by rcases hi with rfl | rfl <;> assumption))
              have hz : (⟨#[]⟩ : ByteArray).size = 0 := rfl
              go_wp2_with fail
              refine (wsum_c g gb size [] _ hW3).mono ?_
              rintro e w4 ⟨_, rfl, rfl, hg4⟩
              have hwz : weak [] = 0 := rfl
              have hsz : ((0 : Int) == (size : Int)) = false := by simp; omega
              rw [hwz]
              go_wp2_with fail
              refine (rsum_c _ _ (by decide)).mono ?_
              rintro e w5 ⟨_, rfl, rfl, hg5⟩
              rw [show bytesOf ⟨#[]⟩ = [] from rfl, hwz]
              go_wp2_with fail
              refine (wbytes_c g gb size [] _ ((hW3.grew hg4).grew hg5)).mono ?_
              rintro e w6 ⟨v6, rfl, hown, hg6⟩
              obtain ⟨A6, c6, rfl, hc6, hC6⟩ := own_str hown
              have hcv := Kd.C_string (P := Try.prog) (c := c6) Try.underlying22 Try.underlying5 Try.underlying9 hC6
              clear hown hC6
              have hse : strOfNums [] = ⟨#[]⟩ := rfl
              rw [hse, show ([] : List Int).length = 0 from rfl] at hcv
              go_wp2_with fail
              go_roundw
              case rel => exact ⟨k + 1, [], by go_num, by omega, by omega, by simp, rfl, ((hW3.grew hg4).grew hg5).grew hg6, ((hgr3.trans hg4).trans hg5).trans hg6⟩
              case measure => simp [intOf]; omega
            · by_cases hbig2 : 255 < x
              · go_wp2_with fail
                refine (clear_c g gb size s _ hW).mono ?_
                rintro e w3 ⟨_, rfl, ⟨rfl, hW3⟩, hu3⟩
                have hgr3 : Grew w w3 := Below.trans hgr (hu3.below (B := w.heap.size) hgr.size (fun i hi => by rcases hi with rfl | rfl <;> assumption))
                have hz : (⟨#[]⟩ : ByteArray).size = 0 := rfl
                go_wp2_with fail
                refine (wsum_c g gb size [] _ hW3).mono ?_
                rintro e w4 ⟨_, rfl, rfl, hg4⟩
                have hwz : weak [] = 0 := rfl
                have hsz : ((0 : Int) == (size : Int)) = false := by simp; omega
                rw [hwz]
                go_wp2_with fail
                refine (rsum_c _ _ (by decide)).mono ?_
                rintro e w5 ⟨_, rfl, rfl, hg5⟩
                rw [show bytesOf ⟨#[]⟩ = [] from rfl, hwz]
                go_wp2_with fail
                refine (wbytes_c g gb size [] _ ((hW3.grew hg4).grew hg5)).mono ?_
                rintro e w6 ⟨v6, rfl, hown, hg6⟩
                obtain ⟨A6, c6, rfl, hc6, hC6⟩ := own_str hown
                have hcv := Kd.C_string (P := Try.prog) (c := c6) Try.underlying22 Try.underlying5 Try.underlying9 hC6
                clear hown hC6
                have hse : strOfNums [] = ⟨#[]⟩ := rfl
                rw [hse, show ([] : List Int).length = 0 from rfl] at hcv
                go_wp2_with fail
                go_roundw
                case rel => exact ⟨k + 1, [], by go_num, by omega, by omega, by simp, rfl, ((hW3.grew hg4).grew hg5).grew hg6, ((hgr3.trans hg4).trans hg5).trans hg6⟩
                case measure => simp [intOf]; omega
              · have hxx : IntKind.u8.wrap x = x := by rw [IntKind.wrap_u8]; omega
                have hb := hW.bytes
                have hu : strOfNums s ++ strOfNums [x] = strOfNums (s ++ [x]) := by
                  apply ByteArray.ext
                  simp [strOfNums]
                have hsz : (strOfNums s).size = s.length := str_size s
                have hsx : (strOfNums [x]).size = 1 := str_size [x]
                have Hcell := Lib.hid hcell
                go_wp2_with fail
                refine (put_c g gb size s x ⟨by omega, by omega⟩ _ hW).mono ?_
                rintro e w3 ⟨_, rfl, ⟨rfl, hW3⟩, hu3⟩
                have hgr3 : Grew w w3 := Below.trans hgr (hu3.below (B := w.heap.size) hgr.size (fun i hi => by rcases hi with rfl | rfl <;> assumption))
                obtain ⟨ad', hA', hcell3⟩ := row_cell (Kd.C_below hr hgr3) k hlt
                obtain rfl := Option.some.inj hA'
                clear hA'
                rw [← HX.out] at hcell3
                have hlit := Kd.C_string (P := Try.prog) (c := 1) Try.underlying22 Try.underlying5 Try.underlying9 ((Blk.new w3 5 (nums .u8 [x])).C (by simp))
                rw [show ([x] : List Int).length = 1 from rfl, show (nums .u8 [x]).toArray = #[Value.int .u8 x] from rfl] at hlit
                go_wp2_with fail
                refine (last_c (s ++ [x]) size _ (by simp; omega) (by omega)).mono ?_
                rintro e w3' ⟨_, rfl, rfl, hg3⟩
                have hW3' := hW3.grew (Grew.trans (Grew.alloc w3 _) hg3)
                have hgr3' : Grew w w3' := Grew.trans hgr3 (Grew.trans (Grew.alloc w3 _) hg3)
                clear hlit hcell3 hW3 hgr3 hu hb
                obtain ⟨s', hs'⟩ : ∃ s', s' = lastL size (s ++ [x]) := ⟨_, rfl⟩
                rw [← hs'] at hW3' ⊢
                clear hs'
                have hb := hW3'.bytes
                have hl' := hW3'.len
                have hsz' : (strOfNums s').size = s'.length := str_size s'
                have hW3 := hW3'
                have hgr3 := hgr3'
                clear hW3' hgr3'
                go_wp2_with fail
                refine (wsum_c g gb size s' _ hW3).mono ?_
                rintro e w4 ⟨_, rfl, rfl, hg4⟩
                go_wp2_with fail
                refine (rsum_c _ _ (by rw [hsz']; omega)).mono ?_
                rintro e w5 ⟨_, rfl, rfl, hg5⟩
                rw [bytesOf_str hb]
                go_wp2_with fail
                refine (wbytes_c g gb size s' _ ((hW3.grew hg4).grew hg5)).mono ?_
                rintro e w6 ⟨v6, rfl, hown, hg6⟩
                obtain ⟨A6, c6, rfl, hc6, hC6⟩ := own_str hown
                have hcv := Kd.C_string (P := Try.prog) (c := c6) Try.underlying22 Try.underlying5 Try.underlying9 hC6
                clear hown hC6
                go_wp2_with fail
                go_roundw
                case rel => exact ⟨k + 1, s', by go_num, by omega, by omega, hW3.len, rfl, ((hW3.grew hg4).grew hg5).grew hg6, ((hgr3.trans hg4).trans hg5).trans hg6⟩
                case measure => simp [intOf]; omega
          · go_wp2_with fail
            refine (lives_c _).mono ?_
            rintro e w3 ⟨_, rfl, rfl, hg3⟩
            go_wp2
            go_ret
            exact ⟨_, rfl, rfl, hgr.trans hg3⟩
        · have d1 : decide (k < l.length) = false := decide_eq_false hlt
          go_wp2_with fail
          refine (lives_c _).mono ?_
          rintro e w3 ⟨_, rfl, rfl, hg3⟩
          go_wp2
          go_ret
          exact ⟨_, rfl, rfl, hgr.trans hg3⟩
end Go.Proofs.Ytgkghmhgpfjddaa.F
