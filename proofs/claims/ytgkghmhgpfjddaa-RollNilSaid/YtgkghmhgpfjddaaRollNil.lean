/- The law RollNil: its call returns true, for all bytes: a nil window has nothing; bytes that were told are their caller's. -/
import Derived.Test.YtgkghmhgpfjddaaRollWindows
namespace Go.Proofs.Ytgkghmhgpfjddaa.F
open Go Go.RowKit Go.Proofs.YtgkghmhgpfjddaaW.PrintWords Go.Proofs.YtgkghmhgpfjddaaW.PrintLast Go.Proofs.YtgkghmhgpfjddaaW.PrintMore Go.Proofs.YtgkghmhgpfjddaaM Go.Proofs.YtgkghmhgpfjddaaR
set_option linter.unusedSimpArgs false
set_option linter.unusedVariables false
set_option maxRecDepth 100000
theorem WinB.lt {g gb size : Nat} {s : List Int} {w : World} (h : WinB g gb size s w) : g < w.heap.size ∧ gb < w.heap.size := by
  obtain ⟨a, b, h⟩ := h
  exact ⟨h.cells.lt, h.row.lt⟩
theorem lastL_pos (s : List Int) (c : Int) : 0 < (lastL 3 (s ++ [c])).length := by simp [lastL]; omega
set_option maxHeartbeats 4000000 in
theorem RollNil_c (w : World) (A : Option Addr) (c : Nat) (l : List Int) (hr : Kd.C (Kd.int .u8) w A l.length l) (hc : l.length ≤ c) (hm : l.length ≤ maxLen) (hy : l.length * 1 ≤ 140737488351232) (hw : ∀ x ∈ l, (Lit.int .u8 x).wf = true) :
    Calls Try.prog 9 #[.slice A l.length c] w (Tells w (Is (.bool true))) := by
  have hb := Lib.hid (bytes_of hw)
  clear hw
  go_enter Try.func9, Try.ntmps9
  go_wp2_with fail
  refine (put_nil 1 _).mono ?_
  rintro e w1 ⟨_, rfl, rfl, hg1⟩
  go_wp2_with fail
  refine (clear_nil _).mono ?_
  rintro e w2 ⟨_, rfl, rfl, hg2⟩
  go_wp2_with fail
  refine (wsum_nil _).mono ?_
  rintro e w3 ⟨_, rfl, rfl, hg3⟩
  go_wp2_with fail
  refine (new_c 3 _ (by omega) (by omega)).mono ?_
  rintro e w4 ⟨_, rfl, ⟨g, gb, rfl, hgB, hgbB, hne, hwin⟩, hg4⟩
  go_wp2_with fail
  refine (wbytes_nil _).mono ?_
  rintro e w5 ⟨_, rfl, rfl, hg5⟩
  have hgr5 : Grew w w5 := hg1.trans (hg2.trans (hg3.trans (hg4.trans hg5)))
  have hB1 : w.heap.size ≤ g := Nat.le_trans (hg1.trans (hg2.trans hg3)).size hgB
  have hB2 : w.heap.size ≤ gb := Nat.le_trans (hg1.trans (hg2.trans hg3)).size hgbB
  have hwin5 := hwin.grew hg5
  clear hgB hgbB hwin
  go_wp2_with fail
  go_loopw [8] (fun iv wr => ∃ (k : Nat) (s : List Int), iv = .int .i64 (k : Int) ∧ k ≤ l.length ∧ WinB g gb 3 s wr ∧ Grew w wr) (fun iv _ => l.length - (intOf iv).toNat)
  case atStart => exact ⟨0, [], rfl, by omega, hwin5, hgr5⟩
  case round =>
    obtain ⟨k, s, rfl, hk, hW, hgr⟩ := hrel
    by_cases hlt : k < l.length
    · have d1 : decide (k < l.length) = true := decide_eq_true hlt
      by_cases hlt2 : (k : Int) < 50
      · obtain ⟨ad, rfl, hcell⟩ := row_cell (Kd.C_below hr hgr) k hlt
        obtain ⟨x, hx⟩ : ∃ x, x = l.getD k 0 := ⟨_, rfl⟩
        have hxb := hb.out x (by rw [hx, List.getD_eq_getElem?_getD, List.getElem?_eq_getElem hlt]; exact List.getElem_mem hlt)
        rw [← hx] at hcell
        clear hx
        go_wp2_with fail
        refine (put_c g gb 3 s x hxb _ hW).mono ?_
        rintro e w6 ⟨_, rfl, ⟨rfl, hW6⟩, hu6⟩
        have hgr6 : Grew w w6 := Below.trans hgr (hu6.below (B := w.heap.size) hgr.size (fun i hi => by rcases hi with rfl | rfl <;> assumption))
        clear hcell
        obtain ⟨s', hs'⟩ : ∃ s', s' = lastL 3 (s ++ [x]) := ⟨_, rfl⟩
        have hpos := lastL_pos s x
        rw [← hs'] at hW6 hpos
        clear hs'
        go_wp2_with fail
        refine (wbytes_c g gb 3 s' _ hW6).mono ?_
        rintro e w7 ⟨v7, rfl, hown, hg7⟩
        obtain ⟨gt, cap, rfl, hgt1, hgt2, hgt3⟩ := own_head hown hpos
        obtain ⟨A7, c7, hv7, hc7, hC7⟩ := own_str hown
        obtain ⟨rfl, -, rfl⟩ := Value.slice.inj hv7
        clear hv7
        have hcv := Kd.C_string (P := Try.prog) (c := cap) Try.underlying22 Try.underlying5 Try.underlying9 hC7
        have hW7 := hW6.grew hg7
        have hl6 := hW6.lt
        have hl7 := hW7.len
        have hn1 : gt ≠ g := by omega
        have hn2 : gt ≠ gb := by omega
        go_wp2_with fail
        clear hcv hC7
        obtain ⟨wo, rfl⟩ : ∃ wo : World, wo = wr := ⟨_, rfl⟩
        go_loopw [11] (fun iv wq => ∃ (j : Nat) (ys : List Int), iv = .int .i64 (j : Int) ∧ j ≤ s'.length ∧ ys.length = s'.length ∧ wq.ownsRow w6.heap.size 5 1 (.slice (some ⟨gt, 0, none⟩) s'.length cap) s'.length (nums .u8 ys) ∧ WinB g gb 3 s' wq ∧ Grew w wq) (fun iv _ => s'.length - (intOf iv).toNat)
        case atStart => exact ⟨0, s', rfl, by omega, rfl, hown, hW7, hgr6.trans hg7⟩
        case round =>
          obtain ⟨j, ys, rfl, hj, hyl, ho, hWq, hgq⟩ := hrel
          by_cases hlt3 : j < s'.length
          · have hcell := (own_atN ho j hlt3).1
            have hfrz := (own_atN ho j hlt3).2
            have d3 : decide (j < s'.length) = true := decide_eq_true hlt3
            go_wp2_with fail
            go_roundw
            case rel => exact ⟨j + 1, _, by go_num, by omega, by rw [List.length_set]; exact hyl, own_storeN ho j _, hWq.upd (Upd.set (S := fun i => i = gt) (p := ⟨gt, j, none⟩) (Upd.refl _ _) (.inl rfl) _) (fun h => hn1 h.symm) (fun h => hn2 h.symm), Below.setCell hgq (by have := hgr6.size; show w.heap.size ≤ gt; omega) _⟩
            case measure => simp [intOf]; omega
          · obtain rfl : j = s'.length := by omega
            have d3 : decide (s'.length < s'.length) = false := decide_eq_false hlt3
            go_wp2_with fail
            refine (wbytes_c g gb 3 s' _ hWq).mono ?_
            rintro e w8 ⟨v8, rfl, hown8, hg8⟩
            obtain ⟨A8, c8, rfl, hc8, hC8⟩ := own_str hown8
            have hcv := Kd.C_string (P := Try.prog) (c := c8) Try.underlying22 Try.underlying5 Try.underlying9 hC8
            go_wp2_with fail
            go_roundw
            case rel => exact ⟨k + 1, s', by go_num, by omega, hWq.grew hg8, hgq.trans hg8⟩
            case measure => simp [intOf]; omega
      · go_wp2_with fail
        refine (lives_c _).mono ?_
        rintro e w6 ⟨_, rfl, rfl, hg6⟩
        go_wp2
        go_ret
        exact ⟨_, rfl, rfl, hgr.trans hg6⟩
    · have d1 : decide (k < l.length) = false := decide_eq_false hlt
      go_wp2_with fail
      refine (lives_c _).mono ?_
      rintro e w6 ⟨_, rfl, rfl, hg6⟩
      go_wp2
      go_ret
      exact ⟨_, rfl, rfl, hgr.trans hg6⟩
end Go.Proofs.Ytgkghmhgpfjddaa.F
