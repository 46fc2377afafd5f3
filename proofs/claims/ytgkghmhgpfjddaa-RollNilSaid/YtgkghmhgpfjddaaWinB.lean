/- The type Window of the package roll: the bytes that it tells are a row of the call's own. -/
import Derived.Test.YtgkghmhgpfjddaaWin
import Derived.Laws.CopyOwn
namespace Go.Proofs.Ytgkghmhgpfjddaa.F
open Go Go.RowKit Go.Proofs.YtgkghmhgpfjddaaW.PrintWords Go.Proofs.YtgkghmhgpfjddaaW.PrintLast Go.Proofs.YtgkghmhgpfjddaaW.PrintMore Go.Proofs.YtgkghmhgpfjddaaM Go.Proofs.YtgkghmhgpfjddaaR
attribute [local go_sem] max2_int min2_int max_two min_two
set_option linter.unusedSimpArgs false
set_option linter.unusedVariables false
set_option maxRecDepth 100000
/-- a row of bytes made behind a mark -/
def Own (base : Nat) (l : List Int) : World → Value → Prop := fun w v => w.ownsRow base 5 1 v l.length (nums .u8 l)
theorem Own.stable (base : Nat) (l : List Int) : ∀ w w' v, Grew w w' → Own base l w v → Own base l w' v := fun _ _ _ hg h => pw_own_below h hg
theorem wbytes_c (g gb size : Nat) (s : List Int) (w : World) (h : WinB g gb size s w) : Calls Try.prog 22 #[.pointer (some ⟨g, 0, none⟩)] w (Tells w (Own w.heap.size s)) := by
  obtain ⟨a, b, h⟩ := h
  obtain rfl := h.len
  have hl := h.ring.len
  have hlt := h.ring.lt
  have hsm := h.small
  have hcut := h.ring.cut
  have hg1 := h.cells.lt
  have hg2 := h.row.lt
  have C0 := Lib.hid (h.cells.at_ 0)
  have C1 := Lib.hid (h.cells.at_ 1)
  have C2 := Lib.hid (h.cells.at_ 2)
  have q2 := h.cells.at_ 2
  simp only [List.getElem?_cons_succ, List.getElem?_cons_zero] at q2
  have HR := Lib.hid (h.row.reads (by omega))
  clear h
  have hmk := print_make (P := Try.prog) 22 5 .u8 1 Try.underlying22 info5 (by decide) s.length (by omega)
  have e3 : IntKind.i64.wrap ((a : Int) + (s.length : Int)) = (a : Int) + (s.length : Int) := IntWalk.i64_in _ (by omega)
  obtain ⟨m, hm⟩ : ∃ m, m = min (a + s.length) b.length := ⟨_, rfl⟩
  have e5 : (if (b.length : Int) < (a : Int) + (s.length : Int) then (b.length : Int) else (a : Int) + (s.length : Int)) = (m : Int) := by split <;> omega
  rw [← hm] at hcut
  have hm1 : a ≤ m := by omega
  have hm2 : m ≤ b.length := by omega
  have hm3 : m - a ≤ s.length := by omega
  have hm4 : s.length - (m - a) ≤ b.length := by omega
  have hm5 : s.length ≤ m - a ∨ b.length ≤ m := by omega
  clear hm
  have E5 := Lib.hid e5
  have E3 := Lib.hid e3
  have HC := Lib.hid hcut
  clear e5 e3 hcut
  obtain ⟨i0, hi, hzz⟩ := Option.map_eq_some_iff.1 info5
  simp only [Prod.mk.injEq] at hzz
  have hsz : i0.size = 1 := hzz.2.1
  obtain ⟨A', hsl, hrd, hle⟩ := print_mid_int (P := Try.prog) (k := .u8) 22 5 Try.underlying22 hi hsz (some ⟨gb, 0, none⟩) b.length b (a : Int) (m : Int) (by omega) (by omega) (by omega) (Nat.le_refl _)
  have HRD := Lib.hid hrd
  have HLE := Lib.hid hle
  clear hzz hsz hi hrd hle
  simp only [Int.toNat_natCast] at hsl HRD HLE
  obtain ⟨X1, hX1⟩ : ∃ X1, X1 = (b.take m).drop a := ⟨_, rfl⟩
  have hl1 : X1.length ≤ m - a := by rw [hX1]; simp; omega
  have hl2 : m - a ≤ X1.length := by rw [hX1]; simp; omega
  rw [← hX1] at hsl HRD HLE HC
  clear hX1
  go_enter Try.func22, Try.ntmps22
  go_wp2
  have hnew := Blk.new w 5 (nums .u8 (List.replicate s.length 0))
  rw [show (nums .u8 (List.replicate s.length 0)).toArray = madeCells #[Value.int IntKind.u8 0] s.length from by
    apply Array.ext'
    refine List.ext_getElem (by simp [nums, madeCells]) fun i h1 h2 => ?_
    simp [nums, madeCells, Nat.mod_one]] at hnew
  obtain ⟨w1, hw1⟩ : ∃ w1, w1 = w.alloc (Obj.cells (madeCells #[Value.int IntKind.u8 0] s.length) 5) := ⟨_, rfl⟩
  have hgr1 : Grew w w1 := by rw [hw1]; exact Grew.alloc _ _
  rw [← hw1] at hnew
  rw [← hw1]
  have HN := Lib.hid hnew
  clear hnew hw1
  have e3 := E3.out
  have e5 := E5.out
  apply region_grew [Is _, Is _, Is _, Is _, Is _, Is _, Is _, Is _, Is _, Is _, Is _, Is _, Is _, Is _, Is _, Is _, Is _, Is _, Is _, Is _, Is _, Is _, Is _, Is _, Is _] [([(3, none)], none), ([(0, none)], none), ([(13, some 1)], none), ([(14, some 2)], none), ([(15, some 3)], none), ([(0, none)], none), ([(17, some 5)], none), ([(18, some 6)], none), ([(19, some 7)], none), ([(0, none)], none), ([(21, some 9)], none), ([(22, some 10)], none), ([(23, some 11)], none), ([(0, none)], none), ([(25, some 13)], none), ([(26, some 14)], none), ([(27, some 15)], none), ([(24, some 12), (28, some 16)], none), ([(0, none)], none), ([(30, some 18)], none), ([(31, some 19)], none), ([(32, some 20)], none), ([(33, some 21)], none), ([(29, some 17), (34, some 22)], none), ([(16, some 4), (20, some 8), (35, some 23)], none)] [(12, 0), (13, 1), (14, 2), (15, 3), (16, 4), (17, 5), (18, 6), (19, 7), (20, 8), (21, 9), (22, 10), (23, 11), (24, 12), (25, 13), (26, 14), (27, 15), (28, 16), (29, 17), (30, 18), (31, 19), (32, 20), (33, 21), (34, 22), (35, 23), (36, 24)] rfl (by kernel_rfl) (by kernel_rfl) (show Stable Grew _ from ⟨Is.stable _, Is.stable _, Is.stable _, Is.stable _, Is.stable _, Is.stable _, Is.stable _, Is.stable _, Is.stable _, Is.stable _, Is.stable _, Is.stable _, Is.stable _, Is.stable _, Is.stable _, Is.stable _, Is.stable _, Is.stable _, Is.stable _, Is.stable _, Is.stable _, Is.stable _, Is.stable _, Is.stable _, Is.stable _, trivial⟩)
  · show OpsHold _ _ _ _ _ _ _ _ _
    refine ⟨fun a_ wx hR hD K hK => ?_, ?_⟩
    · have hG : Grew w1 wx := (Grew.drew _).trans hR
      simp [Deps, Dep, at_, Is] at hD
      go_simp
      exact hK _ _ (Grew.refl _) rfl
    refine ⟨fun a_ wx hR hD K hK => ?_, ?_⟩
    · have hG : Grew w1 wx := (Grew.drew _).trans hR
      simp [Deps, Dep, at_, Is] at hD
      go_simp
      exact hK _ _ (Grew.refl _) rfl
    refine ⟨fun a_ wx hR hD K hK => ?_, ?_⟩
    · have hG : Grew w1 wx := (Grew.drew _).trans hR
      simp [Deps, Dep, at_, Is] at hD
      go_simp
      exact hK _ _ (Grew.refl _) rfl
    refine ⟨fun a_ wx hR hD K hK => ?_, ?_⟩
    · have hG : Grew w1 wx := (Grew.drew _).trans hR
      simp [Deps, Dep, at_, Is] at hD
      go_simp
      exact hK _ _ (Grew.refl _) rfl
    refine ⟨fun a_ wx hR hD K hK => ?_, ?_⟩
    · have hG : Grew w1 wx := (Grew.drew _).trans hR
      simp [Deps, Dep, at_, Is] at hD
      have e_ := pw_cell_below hG (pw_cell_below hgr1 C0.out)
      go_simp
      exact hK _ _ (Grew.refl _) rfl
    refine ⟨fun a_ wx hR hD K hK => ?_, ?_⟩
    · have hG : Grew w1 wx := (Grew.drew _).trans hR
      simp [Deps, Dep, at_, Is] at hD
      go_simp
      exact hK _ _ (Grew.refl _) rfl
    refine ⟨fun a_ wx hR hD K hK => ?_, ?_⟩
    · have hG : Grew w1 wx := (Grew.drew _).trans hR
      simp [Deps, Dep, at_, Is] at hD
      go_simp
      exact hK _ _ (Grew.refl _) rfl
    refine ⟨fun a_ wx hR hD K hK => ?_, ?_⟩
    · have hG : Grew w1 wx := (Grew.drew _).trans hR
      simp [Deps, Dep, at_, Is] at hD
      go_simp
      exact hK _ _ (Grew.refl _) rfl
    refine ⟨fun a_ wx hR hD K hK => ?_, ?_⟩
    · have hG : Grew w1 wx := (Grew.drew _).trans hR
      simp [Deps, Dep, at_, Is] at hD
      have e_ := pw_cell_below hG (pw_cell_below hgr1 C1.out)
      go_simp
      exact hK _ _ (Grew.refl _) rfl
    refine ⟨fun a_ wx hR hD K hK => ?_, ?_⟩
    · have hG : Grew w1 wx := (Grew.drew _).trans hR
      simp [Deps, Dep, at_, Is] at hD
      go_simp
      exact hK _ _ (Grew.refl _) rfl
    refine ⟨fun a_ wx hR hD K hK => ?_, ?_⟩
    · have hG : Grew w1 wx := (Grew.drew _).trans hR
      simp [Deps, Dep, at_, Is] at hD
      go_simp
      exact hK _ _ (Grew.refl _) rfl
    refine ⟨fun a_ wx hR hD K hK => ?_, ?_⟩
    · have hG : Grew w1 wx := (Grew.drew _).trans hR
      simp [Deps, Dep, at_, Is] at hD
      go_simp
      exact hK _ _ (Grew.refl _) rfl
    refine ⟨fun a_ wx hR hD K hK => ?_, ?_⟩
    · have hG : Grew w1 wx := (Grew.drew _).trans hR
      simp [Deps, Dep, at_, Is] at hD
      have e_ := pw_cell_below hG (pw_cell_below hgr1 C1.out)
      go_simp
      exact hK _ _ (Grew.refl _) rfl
    refine ⟨fun a_ wx hR hD K hK => ?_, ?_⟩
    · have hG : Grew w1 wx := (Grew.drew _).trans hR
      simp [Deps, Dep, at_, Is] at hD
      go_simp
      exact hK _ _ (Grew.refl _) rfl
    refine ⟨fun a_ wx hR hD K hK => ?_, ?_⟩
    · have hG : Grew w1 wx := (Grew.drew _).trans hR
      simp [Deps, Dep, at_, Is] at hD
      go_simp
      exact hK _ _ (Grew.refl _) rfl
    refine ⟨fun a_ wx hR hD K hK => ?_, ?_⟩
    · have hG : Grew w1 wx := (Grew.drew _).trans hR
      simp [Deps, Dep, at_, Is] at hD
      go_simp
      exact hK _ _ (Grew.refl _) rfl
    refine ⟨fun a_ wx hR hD K hK => ?_, ?_⟩
    · have hG : Grew w1 wx := (Grew.drew _).trans hR
      simp [Deps, Dep, at_, Is] at hD
      have e_ := pw_cell_below hG (pw_cell_below hgr1 C2.out)
      go_simp
      exact hK _ _ (Grew.refl _) rfl
    refine ⟨fun a_ wx hR hD K hK => ?_, ?_⟩
    · have hG : Grew w1 wx := (Grew.drew _).trans hR
      simp [Deps, Dep, at_, Is] at hD
      obtain ⟨hd0, hd1⟩ := hD
      go_simp
      exact hK _ _ (Grew.refl _) rfl
    refine ⟨fun a_ wx hR hD K hK => ?_, ?_⟩
    · have hG : Grew w1 wx := (Grew.drew _).trans hR
      simp [Deps, Dep, at_, Is] at hD
      go_simp
      exact hK _ _ (Grew.refl _) rfl
    refine ⟨fun a_ wx hR hD K hK => ?_, ?_⟩
    · have hG : Grew w1 wx := (Grew.drew _).trans hR
      simp [Deps, Dep, at_, Is] at hD
      go_simp
      exact hK _ _ (Grew.refl _) rfl
    refine ⟨fun a_ wx hR hD K hK => ?_, ?_⟩
    · have hG : Grew w1 wx := (Grew.drew _).trans hR
      simp [Deps, Dep, at_, Is] at hD
      go_simp
      exact hK _ _ (Grew.refl _) rfl
    refine ⟨fun a_ wx hR hD K hK => ?_, ?_⟩
    · have hG : Grew w1 wx := (Grew.drew _).trans hR
      simp [Deps, Dep, at_, Is] at hD
      have e_ := pw_cell_below hG (pw_cell_below hgr1 C0.out)
      go_simp
      exact hK _ _ (Grew.refl _) rfl
    refine ⟨fun a_ wx hR hD K hK => ?_, ?_⟩
    · have hG : Grew w1 wx := (Grew.drew _).trans hR
      simp [Deps, Dep, at_, Is] at hD
      go_simp
      exact hK _ _ (Grew.refl _) rfl
    refine ⟨fun a_ wx hR hD K hK => ?_, ?_⟩
    · have hG : Grew w1 wx := (Grew.drew _).trans hR
      simp [Deps, Dep, at_, Is] at hD
      obtain ⟨hd0, hd1⟩ := hD
      go_simp
      exact hK _ _ (Grew.refl _) rfl
    refine ⟨fun a_ wx hR hD K hK => ?_, ?_⟩
    · have hG : Grew w1 wx := (Grew.drew _).trans hR
      simp [Deps, Dep, at_, Is] at hD
      obtain ⟨hd0, hd1, hd2⟩ := hD
      go_simp
      exact hK _ _ (Grew.refl _) rfl
    trivial
  · show EndHold _ _ _ _ _ _ _
    refine end_all (xs := [_, _, _, _, _, _, _, _, _, _, _, _, _, _, _, _, _, _, _, _, _, _, _, _, _]) ⟨rfl, rfl, rfl, rfl, rfl, rfl, rfl, rfl, rfl, rfl, rfl, rfl, rfl, rfl, rfl, rfl, rfl, rfl, rfl, rfl, rfl, rfl, rfl, rfl, rfl, trivial⟩ ?_
    rintro w2 hR1 -
    refine ⟨?_⟩
    have hG_w2 : Grew w1 w2 := (Grew.drew _).trans hR1
    clear hR1
    simp only [Act.put, List.setIfInBounds_toArray, List.set_cons_succ, List.set_cons_zero, dropN, putEach]
    have hB2 : Below w.heap.size w w2 := hgr1.trans hG_w2
    have hn2 := HN.out.grew hG_w2
    have hx := HRD.out w2 (HR.out.below hB2)
    refine wpList_copy_splice rfl (.tmp 12) (.tmp 36) 22 22 rfl 5 Try.underlying22 rfl _ _ _ _ _ _ rfl rfl w.heap.size 0 (nums .u8 (List.replicate s.length 0)) 5 hn2 (nums .u8 X1) ((show (nums .u8 X1).length = X1.length from by simp [nums]).trans (Nat.min_eq_left (by omega)).symm) ?_ (by simp [nums]; omega) (by simp [nums, Value.oneCell']) w.heap.size w hB2 (Nat.le_refl _) ?_
    · intro hp
      obtain ⟨ad, hA, hc⟩ := hx.2.2 (by simpa [nums] using hp)
      refine ⟨rfl, ad, hA, fun j v hj => ?_⟩
      have hj2 : j < X1.length := by
        rcases Nat.lt_or_ge j X1.length with h | h
        · exact h
        · rw [List.getElem?_eq_none (by simpa [nums] using h)] at hj; cases hj
      rw [hc j hj2, ← hj]
      simp [nums, hj2, List.getD_eq_getElem?_getD]
    intro w3 H3 hB3
    have e9 : (nums IntKind.u8 X1).length = X1.length := by simp [nums]
    rw [e9]
    clear hx hn2
    have fin : ∀ w5 : World, Blk w5 w.heap.size 5 (nums .u8 s) → Below w.heap.size w w5 → w5.ownsRow w.heap.size 5 1 (.slice (some ⟨w.heap.size, 0, none⟩) s.length s.length) s.length (nums .u8 s) := fun w5 hb _ => by
      have := hb.own (base := w.heap.size) (Nat.le_refl _) (Nat.le_refl _) (by omega)
      rwa [List.take_length] at this
    have HF := Lib.hid fin
    clear fin
    have c3 : w3.cell? ⟨g, 0, none⟩ = some (.slice (some ⟨gb, 0, none⟩) b.length b.length) := (hB3.cell (p := ⟨g, 0, none⟩) hg1).trans C0.out
    have C3 := Lib.hid c3
    clear c3
    by_cases hk : X1.length = s.length
    · obtain rfl : X1 = s := by
        have := HC.out
        rw [show s.length - (m - a) = 0 from by omega, List.take_zero, List.append_nil] at this
        exact this
      have H3' : Blk w3 w.heap.size 5 (nums .u8 X1) := by
        have := H3.out
        unfold Blk
        rw [this]
        simp [splice, nums]
      have H4 := Lib.hid H3'
      clear H3' H3 hk
      go_wp2
      apply region_grew [Is _, Is _, Is _, Is _, Is _, Is _, Is _] [([(3, none)], none), ([(4, none)], none), ([(38, some 0), (39, some 1)], none), ([(0, none)], none), ([(41, some 3)], none), ([(42, some 4)], none), ([(43, some 5)], none)] [(38, 0), (39, 1), (40, 2), (41, 3), (42, 4), (43, 5), (44, 6)] rfl (by kernel_rfl) (by kernel_rfl) (show Stable Grew _ from ⟨Is.stable _, Is.stable _, Is.stable _, Is.stable _, Is.stable _, Is.stable _, Is.stable _, trivial⟩)
      · show OpsHold _ _ _ _ _ _ _ _ _
        refine ⟨fun a_ wx hR hD K hK => ?_, ?_⟩
        · have hG : Grew w3 wx := (Grew.drew _).trans hR
          simp [Deps, Dep, at_, Is] at hD
          go_simp
          exact hK _ _ (Grew.refl _) rfl
        refine ⟨fun a_ wx hR hD K hK => ?_, ?_⟩
        · have hG : Grew w3 wx := (Grew.drew _).trans hR
          simp [Deps, Dep, at_, Is] at hD
          go_simp
          exact hK _ _ (Grew.refl _) rfl
        refine ⟨fun a_ wx hR hD K hK => ?_, ?_⟩
        · have hG : Grew w3 wx := (Grew.drew _).trans hR
          simp [Deps, Dep, at_, Is] at hD
          obtain ⟨hd0, hd1⟩ := hD
          go_simp
          exact hK _ _ (Grew.refl _) rfl
        refine ⟨fun a_ wx hR hD K hK => ?_, ?_⟩
        · have hG : Grew w3 wx := (Grew.drew _).trans hR
          simp [Deps, Dep, at_, Is] at hD
          go_simp
          exact hK _ _ (Grew.refl _) rfl
        refine ⟨fun a_ wx hR hD K hK => ?_, ?_⟩
        · have hG : Grew w3 wx := (Grew.drew _).trans hR
          simp [Deps, Dep, at_, Is] at hD
          go_simp
          exact hK _ _ (Grew.refl _) rfl
        refine ⟨fun a_ wx hR hD K hK => ?_, ?_⟩
        · have hG : Grew w3 wx := (Grew.drew _).trans hR
          simp [Deps, Dep, at_, Is] at hD
          go_simp
          exact hK _ _ (Grew.refl _) rfl
        refine ⟨fun a_ wx hR hD K hK => ?_, ?_⟩
        · have hG : Grew w3 wx := (Grew.drew _).trans hR
          simp [Deps, Dep, at_, Is] at hD
          have e_ := pw_cell_below hG C3.out
          go_simp
          exact hK _ _ (Grew.refl _) rfl
        trivial
      · show EndHold _ _ _ _ _ _ _
        refine end_all (xs := [_, _, _, _, _, _, _]) ⟨rfl, rfl, rfl, rfl, rfl, rfl, rfl, trivial⟩ ?_
        rintro w4 hR1 -
        refine ⟨?_⟩
        have hG_w4 : Grew w3 w4 := (Grew.drew _).trans hR1
        clear hR1
        simp only [Act.put, List.setIfInBounds_toArray, List.set_cons_succ, List.set_cons_zero, dropN, putEach]
        have hB4 : Below w.heap.size w w4 := hB3.trans (hG_w4.mono (by exact hB3.size))
        refine wpList_copy_nothing rfl (.tmp 40) (.tmp 44) 22 22 rfl 5 Try.underlying22 rfl _ _ _ _ _ _ rfl rfl (by simp) ?_
        go_wp2
        go_ret
        exact ⟨_, rfl, HF.out w4 (H4.out.grew hG_w4) hB4, hB4⟩
    · have hkl : X1.length < s.length := by omega
      have hmb : m = b.length := by omega
      have k1 : ¬ s.length = X1.length := by omega
      have k2 : (X1.length : Int) ≤ (s.length : Int) := by omega
      go_wp2
      apply region_grew [Is _, Is _, Is _, Is _, Is _, Is _, Is _] [([(3, none)], none), ([(4, none)], none), ([(38, some 0), (39, some 1)], none), ([(0, none)], none), ([(41, some 3)], none), ([(42, some 4)], none), ([(43, some 5)], none)] [(38, 0), (39, 1), (40, 2), (41, 3), (42, 4), (43, 5), (44, 6)] rfl (by kernel_rfl) (by kernel_rfl) (show Stable Grew _ from ⟨Is.stable _, Is.stable _, Is.stable _, Is.stable _, Is.stable _, Is.stable _, Is.stable _, trivial⟩)
      · show OpsHold _ _ _ _ _ _ _ _ _
        refine ⟨fun a_ wx hR hD K hK => ?_, ?_⟩
        · have hG : Grew w3 wx := (Grew.drew _).trans hR
          simp [Deps, Dep, at_, Is] at hD
          go_simp
          exact hK _ _ (Grew.refl _) rfl
        refine ⟨fun a_ wx hR hD K hK => ?_, ?_⟩
        · have hG : Grew w3 wx := (Grew.drew _).trans hR
          simp [Deps, Dep, at_, Is] at hD
          go_simp
          exact hK _ _ (Grew.refl _) rfl
        refine ⟨fun a_ wx hR hD K hK => ?_, ?_⟩
        · have hG : Grew w3 wx := (Grew.drew _).trans hR
          simp [Deps, Dep, at_, Is] at hD
          obtain ⟨hd0, hd1⟩ := hD
          go_simp
          exact hK _ _ (Grew.refl _) rfl
        refine ⟨fun a_ wx hR hD K hK => ?_, ?_⟩
        · have hG : Grew w3 wx := (Grew.drew _).trans hR
          simp [Deps, Dep, at_, Is] at hD
          go_simp
          exact hK _ _ (Grew.refl _) rfl
        refine ⟨fun a_ wx hR hD K hK => ?_, ?_⟩
        · have hG : Grew w3 wx := (Grew.drew _).trans hR
          simp [Deps, Dep, at_, Is] at hD
          go_simp
          exact hK _ _ (Grew.refl _) rfl
        refine ⟨fun a_ wx hR hD K hK => ?_, ?_⟩
        · have hG : Grew w3 wx := (Grew.drew _).trans hR
          simp [Deps, Dep, at_, Is] at hD
          go_simp
          exact hK _ _ (Grew.refl _) rfl
        refine ⟨fun a_ wx hR hD K hK => ?_, ?_⟩
        · have hG : Grew w3 wx := (Grew.drew _).trans hR
          simp [Deps, Dep, at_, Is] at hD
          have e_ := pw_cell_below hG C3.out
          go_simp
          exact hK _ _ (Grew.refl _) rfl
        trivial
      · show EndHold _ _ _ _ _ _ _
        refine end_all (xs := [_, _, _, _, _, _, _]) ⟨rfl, rfl, rfl, rfl, rfl, rfl, rfl, trivial⟩ ?_
        rintro w4 hR1 -
        refine ⟨?_⟩
        have hG_w4 : Grew w3 w4 := (Grew.drew _).trans hR1
        clear hR1
        simp only [Act.put, List.setIfInBounds_toArray, List.set_cons_succ, List.set_cons_zero, dropN, putEach]
        have hB4 : Below w.heap.size w w4 := hB3.trans (hG_w4.mono (by exact hB3.size))
        have hn4 := blk_below H3.out hG_w4
        have hx := HR.out.below hB4
        obtain ⟨X2, hX2⟩ : ∃ X2, X2 = b.take (s.length - (m - a)) := ⟨_, rfl⟩
        have hs := HC.out
        rw [← hX2] at hs
        have hl3 : X2.length = s.length - X1.length := by rw [← hs]; simp
        refine wpList_copy_splice rfl (.tmp 40) (.tmp 44) 22 22 rfl 5 Try.underlying22 rfl _ _ _ _ _ _ rfl rfl w.heap.size X1.length (splice (nums .u8 (List.replicate s.length 0)) 0 (nums .u8 X1)) 5 hn4 (nums .u8 X2) ((show (nums .u8 X2).length = s.length - X1.length from by simp [nums, hl3]).trans (Nat.min_eq_right (by omega)).symm) ?_ (by rw [length_splice _ _ _ (by simp [nums]; omega)]; simp [nums, hl3]; omega) (by simp [nums, Value.oneCell']) w.heap.size w hB4 (Nat.le_refl _) ?_
        · intro hp
          refine ⟨by simp, _, rfl, fun j v hj => ?_⟩
          have hj2 : j < X2.length := by
            rcases Nat.lt_or_ge j X2.length with h | h
            · exact h
            · rw [List.getElem?_eq_none (by simpa [nums] using h)] at hj; cases hj
          have hj3 : j < s.length - (m - a) := by rw [hX2, List.length_take] at hj2; omega
          obtain ⟨ad, hA, hc⟩ := hx.2.2 (by omega)
          injection hA with hA
          subst hA
          rw [hc j (by omega), ← hj, hX2]
          simp [nums, hj3, List.getD_eq_getElem?_getD, show j < b.length from by omega]
        intro w5 H5 hB5
        go_wp2
        go_ret
        refine ⟨_, rfl, HF.out w5 ?_ hB5, hB5⟩
        have := H5.out
        unfold Blk
        rw [this, ← hs]
        congr 2
        simp [splice, nums, List.take_append, List.drop_append, hl3]
end Go.Proofs.Ytgkghmhgpfjddaa.F
