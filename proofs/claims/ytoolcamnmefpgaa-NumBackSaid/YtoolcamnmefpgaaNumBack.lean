/- The law NumBack: its call returns true, for all bytes ahead and behind, all numbers and cuts: a number that is written is read again; cut short it ends too early. -/
import Derived.Test.YtoolcamnmefpgaaNumLeast
import Derived.Test.YtoolcamnmefpgaaOwn
namespace Go.Proofs.Ytoolcamnmefpgaa.F
open Go Go.RowKit Go.Proofs.YtoolcamnmefpgaaW.PrintWords Go.Proofs.YtoolcamnmefpgaaW.PrintLast Go.Proofs.YtoolcamnmefpgaaW.PrintMore Go.Proofs.YtoolcamnmefpgaaM Go.Proofs.YtoolcamnmefpgaaR
set_option linter.unusedSimpArgs false
set_option linter.unusedVariables false
set_option maxRecDepth 100000
set_option maxHeartbeats 4000000 in
theorem NumBack_c (w : World) (A0 : Option Addr) (c0 : Nat) (a : List Int) (A1 : Option Addr) (c1 : Nat) (b : List Int) (x y : Int) (hr0 : Kd.C (Kd.int .u8) w A0 a.length a) (hc0 : a.length ≤ c0) (hw0 : ∀ x ∈ a, (Lit.int .u8 x).wf = true)
    (hr1 : Kd.C (Kd.int .u8) w A1 b.length b) (hc1 : b.length ≤ c1) (hw1 : ∀ x ∈ b, (Lit.int .u8 x).wf = true) (hx : (Lit.int .u64 x).wf = true) (hy : (Lit.int .i64 y).wf = true) :
    Calls Try.prog 5 #[.agg #[.slice A0 a.length c0, .slice A1 b.length c1], .int .u64 x, .int .i64 y] w (Tells w (Is (.bool true))) := by
  obtain ⟨n, rfl, hn⟩ := wf_u64 hx
  have ha := Lib.hid (bytes_of hw0)
  have hb := Lib.hid (bytes_of hw1)
  clear hw0 hw1 hx hy
  go_enter Try.func5, Try.ntmps5
  go_wp2_with fail
  obtain ⟨W, hW⟩ : ∃ W : World, W = w.alloc (Obj.cells #[Value.slice A0 a.length c0, Value.slice A1 b.length c1] 35) := ⟨_, rfl⟩
  rw [← hW]
  have hg0 : Grew w W := by rw [hW]; exact Grew.alloc _ _
  have D0 := Lib.hid (show W.cell? ⟨w.heap.size, 0, none⟩ = some (.slice A0 a.length c0) by rw [hW]; go_simp)
  have D1 := Lib.hid (show W.cell? ⟨w.heap.size, 1, none⟩ = some (.slice A1 b.length c1) by rw [hW]; go_simp)
  clear hW
  apply region_grew [Is _, Is _, Is _, Is _, Is _] [([(3, none)], none), ([(17, some 0)], none), ([(3, none)], none), ([(19, some 2)], none), ([(18, some 1)], none)] [(7, 4), (17, 0), (18, 1), (19, 2), (20, 3)] rfl (by kernel_rfl) (by kernel_rfl) (show Stable Grew _ from ⟨Is.stable _, Is.stable _, Is.stable _, Is.stable _, Is.stable _, trivial⟩)
  · show OpsHold _ _ _ _ _ _ _ _ _
    refine ⟨fun a_ wx hR hD K hK => ?_, ?_⟩
    · have hG : Grew _ wx := (Grew.drew _).trans hR
      simp [Deps, Dep, at_, Is] at hD
      go_simp
      exact hK _ _ (Grew.refl _) rfl
    refine ⟨fun a_ wx hR hD K hK => ?_, ?_⟩
    · have hG : Grew _ wx := (Grew.drew _).trans hR
      simp [Deps, Dep, at_, Is] at hD
      have e := pw_cell_below hG D0.out
      go_simp
      exact hK _ _ (Grew.refl _) rfl
    refine ⟨fun a_ wx hR hD K hK => ?_, ?_⟩
    · have hG : Grew _ wx := (Grew.drew _).trans hR
      simp [Deps, Dep, at_, Is] at hD
      go_simp
      exact hK _ _ (Grew.refl _) rfl
    refine ⟨fun a_ wx hR hD K hK => ?_, ?_⟩
    · have hG : Grew _ wx := (Grew.drew _).trans hR
      simp [Deps, Dep, at_, Is] at hD
      have e := pw_cell_below hG D1.out
      go_simp
      exact hK _ _ (Grew.refl _) rfl
    refine ⟨fun a_ wx hR hD K hK => ?_, ?_⟩
    · have hG : Grew _ wx := (Grew.drew _).trans hR
      simp [Deps, Dep, at_, Is] at hD
      go_simp
      exact hK _ _ (Grew.refl _) rfl
    trivial
  · show EndHold _ _ _ _ _ _ _
    refine end_all (xs := [_, _, _, _, _]) ⟨rfl, rfl, rfl, rfl, rfl, trivial⟩ ?_
    rintro w1 hR1 -
    refine ⟨?_⟩
    have hG_w1 : Grew _ w1 := (Grew.drew _).trans hR1
    clear hR1
    simp only [Act.put, List.setIfInBounds_toArray, List.set_cons_succ, List.set_cons_zero, dropN, putEach]
    clear D0 D1
    have hgw : Grew w w1 := hg0.trans hG_w1
    clear hg0 hG_w1
    go_wp2_with fail
    by_cases h1 : a.length ≤ 20000
    case neg =>
      refine (small_c A0 c0 a w1 (Kd.C_below hr0 hgw) hc0 false (decide_eq_false h1)).mono ?_
      rintro e w2 ⟨_, rfl, rfl, hg2⟩
      go_wp2_with fail
      refine (lives_c _).mono ?_
      rintro e w3 ⟨_, rfl, rfl, hg3⟩
      go_wp2
      go_ret
      exact ⟨_, rfl, rfl, hgw.trans (hg2.trans hg3)⟩
    refine (small_c A0 c0 a w1 (Kd.C_below hr0 hgw) hc0 true (decide_eq_true h1)).mono ?_
    rintro e w2 ⟨_, rfl, rfl, hg2⟩
    have hgw2 := hgw.trans hg2
    clear hgw hg2
    go_wp2_with fail
    by_cases h2 : b.length ≤ 20000
    case neg =>
      refine (small_c A1 c1 b w2 (Kd.C_below hr1 hgw2) hc1 false (decide_eq_false h2)).mono ?_
      rintro e w3 ⟨_, rfl, rfl, hg3⟩
      go_wp2_with fail
      refine (lives_c _).mono ?_
      rintro e w4 ⟨_, rfl, rfl, hg4⟩
      go_wp2
      go_ret
      exact ⟨_, rfl, rfl, hgw2.trans (hg3.trans hg4)⟩
    refine (small_c A1 c1 b w2 (Kd.C_below hr1 hgw2) hc1 true (decide_eq_true h2)).mono ?_
    rintro e w3 ⟨_, rfl, rfl, hg3⟩
    have hgw3 := hgw2.trans hg3
    clear hgw2 hg3
    have ho0 : ∃ o, o = a ++ putL n := ⟨_, rfl⟩
    obtain ⟨o, ho⟩ := ho0
    have hput := put_c A0 c0 a n w3 (Kd.C_below hr0 hgw3) hc0 hn (by omega)
    rw [← ho] at hput
    have hol : o.length = a.length + (putL n).length := by rw [ho]; simp
    have hL := putL_ten hn
    have hL1 := putL_pos n
    have ho2 : o.length ≤ 30000 := by omega
    have HO := Lib.hid ho
    have HL := Lib.hid hol
    have HP := Lib.hid hput
    clear ho hol hput hL hL1
    go_wp2_with fail
    refine HP.out.mono ?_
    clear HP
    rintro e w4 ⟨_, rfl, ⟨A9, c9, rfl, hc9, hC9⟩, hg4⟩
    have hgw4 := hgw3.trans hg4
    clear hgw3 hg4
    have HR := Lib.hid (fun z => reads_of (Kd.C_alloc hC9 z))
    go_wp2_with (first | (at_builtin; refine print_append_row (w0 := w) w.heap.size rfl (.tmp 34) (.tmp 35) 22 5 .u8 1 rfl Try.underlying22 info5 (by decide) (.slice (some ⟨w4.heap.size, 0, none⟩) 0 0) [] o A9 o.length c9 rfl rfl (own_lit _ _ 5 .u8 [] hgw4.size (by simp)) (HR.out _) (hgw4.trans (Grew.alloc _ _)) ((hgw4.trans (Grew.alloc _ _)).size) (by simp; omega) ?_; intro v10 w5 ho5 hb5 hgr5 hat5) | (at_builtin; refine print_append_row (w0 := w) w.heap.size rfl (.tmp 37) (.tmp 38) 22 5 .u8 1 rfl Try.underlying22 info5 (by decide) v10 _ b A1 b.length c1 rfl rfl ho5 (reads_of (Kd.C_below hr1 hb5)) hb5 hb5.size (by simp; omega) ?_; intro v11 w6 ho6 hb6 hgr6 _))
    rw [List.nil_append] at ho6
    obtain ⟨A11, c11, rfl, _, hc11, hC11⟩ := own_C ho6
    have hgw6 : Grew w w6 := hb6
    have hg45 : Below w4.heap.size w4 w5 := Below.grown (Grew.alloc w4 _) hgr5 (Grew.alloc w4 _).size (fun z hz => by simp [Value.ownBlock] at hz; omega)
    have hg46 : Grew w4 w6 := Below.grown hg45 hgr6 hg45.size (fun z hz => by
      have hsz := (Grew.alloc w4 (Obj.cells #[] 5)).size
      rcases hat5 with h | ⟨z', h, h'⟩
      · rw [hz] at h; simp [Value.ownBlock] at h; omega
      · rw [hz] at h; injection h with h; omega)
    clear hg45 hgr5 hgr6 hat5
    clear ho6 ho5 hb5 hb6 HR
    have hget := get_c A11 c11 (o ++ b) a.length w6 hC11 hc11 (by simp; omega) (fun z hz => (List.mem_append.1 hz).elim (fun h => by rw [HO.out] at h; exact (List.mem_append.1 h).elim (ha.out z) (putL_bytes n z)) (hb.out z))
    rw [show getL (o ++ b) a.length = ((n : Int), ((a.length + (putL n).length : Nat) : Int), 0) from by rw [HO.out]; exact getL_put a b n hn] at hget
    refine hget.mono ?_
    clear hget
    rintro e w7 ⟨_, rfl, rfl, hg7⟩
    have hgw7 := hgw6.trans hg7
    have hC7 := Kd.C_below hC9 (hg46.trans hg7)
    clear hgw6 hg7 hC11 hC9 hg46
    have t1 : (((a.length : Int) + ((putL n).length : Int)) != (o.length : Int)) = false := by rw [HL.out]; simp
    have t2 : ((o.length : Int) != ((a.length : Int) + ((putL n).length : Int))) = false := by rw [HL.out]; simp
    go_wp2_with fail
    refine (size_c n _ hn).mono ?_
    rintro e w8 ⟨_, rfl, rfl, hg8⟩
    have hgw8 := hgw7.trans hg8
    have hC8 := Kd.C_below hC7 hg8
    clear hgw7 hg8 hC7
    have hL := putL_ten hn
    by_cases y1 : y < (a.length : Int)
    · have d1 : decide (y < (a.length : Int)) = true := decide_eq_true y1
      go_wp2_with fail
      refine (lives_c _).mono ?_
      rintro e w9 ⟨_, rfl, rfl, hg9⟩
      go_wp2
      go_ret
      exact ⟨_, rfl, rfl, hgw8.trans hg9⟩
    by_cases y2 : (o.length : Int) ≤ y
    · have d1 : decide (y < (a.length : Int)) = false := decide_eq_false y1
      have d2 : decide ((o.length : Int) ≤ y) = true := decide_eq_true y2
      go_wp2_with fail
      refine (lives_c _).mono ?_
      rintro e w9 ⟨_, rfl, rfl, hg9⟩
      go_wp2
      go_ret
      exact ⟨_, rfl, rfl, hgw8.trans hg9⟩
    obtain ⟨k, rfl⟩ := Int.eq_ofNat_of_zero_le (show 0 ≤ y by omega)
    have d1 : decide (k < a.length) = false := decide_eq_false (by omega)
    have d2 : decide (o.length ≤ k) = false := decide_eq_false (by omega)
    have y3 : k < o.length := by omega
    have y4 : a.length ≤ k := by omega
    clear y1 y2
    go_wp2_with fail
    have hkl : (o.take k).length = k := by simp; omega
    have hget := get_c A9 c9 (o.take k) a.length w8 (Kd.C_take hC8 (Nat.le_of_lt y3)) (by omega) (by omega) (fun z hz => by have h := List.mem_of_mem_take hz; rw [HO.out] at h; exact (List.mem_append.1 h).elim (ha.out z) (putL_bytes n z))
    rw [hkl, show getL (o.take k) a.length = (0, 0, 3) from by rw [HO.out]; exact getL_cut a n k hn y4 (by rw [← HL.out]; exact y3)] at hget
    clear hkl
    refine hget.mono ?_
    clear hget
    rintro e w9 ⟨_, rfl, rfl, hg9⟩
    go_wp2_with fail
    refine (lives_c _).mono ?_
    rintro e w10 ⟨_, rfl, rfl, hg10⟩
    go_wp2
    go_ret
    exact ⟨_, rfl, rfl, hgw8.trans (hg9.trans hg10)⟩
end Go.Proofs.Ytoolcamnmefpgaa.F
