/- The law ChunkMarks: its call returns true, for any window and any bits. -/
import Derived.Test.YtaeobiilihklhaaChunkR
namespace Go.Proofs.Ytaeobiilihklhaa.F
open Go Go.RowKit Go.Proofs.YtaeobiilihklhaaW.PrintWords Go.Proofs.YtaeobiilihklhaaW.PrintLast Go.Proofs.YtaeobiilihklhaaW.PrintMore Go.Proofs.YtaeobiilihklhaaM Go.Proofs.YtaeobiilihklhaaR
set_option linter.unusedSimpArgs false
set_option linter.unusedVariables false
set_option maxRecDepth 100000
theorem mark_c (A : Option Addr) (c : Nat) (l : List Int) (bits : Int) (w : World) (hr : Kd.C (Kd.int .u8) w A l.length l) (hc : l.length ≤ c) (hl : l.length ≤ 100000) (hb : ∀ x ∈ l, 0 ≤ x ∧ x < 256) :
    Calls Try.prog 20 #[.slice A l.length c, .int .i64 bits] w (Tells w (Is (.bool (markB (weak (lastL 16 l)) bits)))) := by
  refine tells_is ((chunk_Mark.calls (l.length + 1) A c l bits _ w hr hc ?_).mono fun _ _ ⟨h, k⟩ => ⟨h, k⟩)
  unfold chunk_Mark.f
  have e : mx 0 (wrap64 ((l.length : Int) - 16)) = ((l.length - 16 : Nat) : Int) := by
    rw [w64 (by omega) (by omega)]
    unfold mx; split <;> omega
  rw [e, if_pos (by omega), if_pos (by omega), Int.toNat_natCast]
  have hd : l.drop (l.length - 16) = lastL 16 l := rfl
  rw [hd, sum_f (lastL 16 l) (by have := lastL_len 16 l; omega) (fun x hx => hb x (List.mem_of_mem_drop hx)) (l.length + 1) (Nat.lt_succ_of_le (by simp [lastL])), obs]
  have hw := weak_range (lastL 16 l)
  rw [marked_f _ _ hw.1 hw.2, obs]
theorem rmark_c (l : List Int) (bits : Int) (w : World) (hl : l.length ≤ 100000) (hb : ∀ x ∈ l, 0 ≤ x ∧ x < 256) :
    Calls Try.prog 21 #[.string (strOfNums l), .int .i64 bits] w (Tells w (Is (.bool (markB (weak (lastL 16 l)) bits)))) :=
  tells_is ((strongroomref17_Mark.calls 100 _ bits _ w (rmark_f l bits 100 hl hb (by omega))).mono fun _ _ ⟨h, k⟩ => ⟨h, k.below⟩)
set_option maxHeartbeats 1000000 in
theorem ChunkMarks_c (w : World) (A : Option Addr) (c : Nat) (l : List Int) (bits : Int) (hr : Kd.C (Kd.int .u8) w A l.length l) (hc : l.length ≤ c) (hm : l.length ≤ maxLen) (hy : l.length * 1 ≤ 140737488351232) (hw : ∀ x ∈ l, (Lit.int .u8 x).wf = true) (h1 : (Lit.int .i64 bits).wf = true) :
    Calls Try.prog 7 #[.slice A l.length c, .int .i64 bits] w (Tells w (Is (.bool true))) := by
  have hb := Lib.hid (bytes_of hw)
  clear hw h1
  by_cases h : 1000 < l.length
  · have h1 : decide (1000 < l.length) = true := decide_eq_true h
    go_enter Try.func7, Try.ntmps7
    go_wp2_with fail
    refine (lives_c _).mono ?_
    rintro e w' ⟨_, rfl, rfl, hg⟩
    go_wp2
    go_ret
    exact ⟨_, rfl, rfl, hg⟩
  · have h1 : decide (1000 < l.length) = false := decide_eq_false h
    go_enter Try.func7, Try.ntmps7
    go_wp2_with fail
    apply region_grew [Is _, Is _, Is _, Is _, Is _, Is _] [([(0, none)], none), ([(1, none)], none), ([(9, some 0), (10, some 1)], none), ([(0, none)], none), ([(12, some 3)], none), ([(1, none)], none)] [(9, 0), (10, 1), (11, 2), (12, 3), (13, 4), (14, 5)] rfl (by kernel_rfl) (by kernel_rfl) (show Stable Grew _ from ⟨Is.stable _, Is.stable _, Is.stable _, Is.stable _, Is.stable _, Is.stable _, trivial⟩)
    · show OpsHold _ _ _ _ _ _ _ _ _
      refine ⟨fun a_ wx hR hD K hK => ?_, ?_⟩
      · have hG : Grew w wx := (Grew.drew _).trans hR
        simp [Deps, Dep, at_, Is] at hD
        go_simp
        exact hK _ _ (Grew.refl _) rfl
      refine ⟨fun a_ wx hR hD K hK => ?_, ?_⟩
      · have hG : Grew w wx := (Grew.drew _).trans hR
        simp [Deps, Dep, at_, Is] at hD
        go_simp
        exact hK _ _ (Grew.refl _) rfl
      refine ⟨fun a_ wx hR hD K hK => ?_, ?_⟩
      · have hG : Grew w wx := (Grew.drew _).trans hR
        simp [Deps, Dep, at_, Is] at hD
        obtain ⟨hd0, hd1⟩ := hD
        go_simp
        have hcn := mark_c A c l bits wx (Kd.C_below hr hG) hc (by omega) hb.out
        with_reducible refine hcn.mono ?_
        clear hcn
        rintro e wy ⟨v, rfl, hv, hg⟩
        exact hK _ _ hg hv
      refine ⟨fun a_ wx hR hD K hK => ?_, ?_⟩
      · have hG : Grew w wx := (Grew.drew _).trans hR
        simp [Deps, Dep, at_, Is] at hD
        go_simp
        exact hK _ _ (Grew.refl _) rfl
      refine ⟨fun a_ wx hR hD K hK => ?_, ?_⟩
      · have hG : Grew w wx := (Grew.drew _).trans hR
        simp [Deps, Dep, at_, Is] at hD
        have hcv := Kd.C_string (P := Try.prog) (c := c) Try.underlying42 Try.underlying5 Try.underlying9 (Kd.C_below hr hG)
        go_simp
        exact hK _ _ (Grew.refl _) rfl
      refine ⟨fun a_ wx hR hD K hK => ?_, ?_⟩
      · have hG : Grew w wx := (Grew.drew _).trans hR
        simp [Deps, Dep, at_, Is] at hD
        go_simp
        exact hK _ _ (Grew.refl _) rfl
      trivial
    · show EndHold _ _ _ _ _ _ _
      refine end_all (xs := [_, _, _, _, _, _]) ⟨rfl, rfl, rfl, rfl, rfl, rfl, trivial⟩ ?_
      rintro w1 hR1 -
      refine ⟨?_⟩
      have hG_w1 : Grew w w1 := (Grew.drew _).trans hR1
      clear hR1
      simp only [Act.put, List.setIfInBounds_toArray, List.set_cons_succ, List.set_cons_zero, dropN, putEach]
      go_wp2_with fail
      refine (rmark_c l bits _ (by omega) hb.out).mono ?_
      rintro e w2 ⟨_, rfl, rfl, hg2⟩
      go_wp2_with fail
      refine (lives_c _).mono ?_
      rintro e w3 ⟨_, rfl, rfl, hg3⟩
      go_wp2
      go_ret
      exact ⟨_, rfl, rfl, hG_w1.trans (hg2.trans hg3)⟩
end Go.Proofs.Ytaeobiilihklhaa.F
