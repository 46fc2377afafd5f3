/- Texts of this seat laid together: F8, F9, F10, F14, LnkM, LnkD, Upd, F34, LnkE, Grp, Arr, LnkF, RowO, RegB, F38, LnkS. -/
import Derived.Test.YteaefambkagpbaaSA
import Derived.IntWalk
import Derived.Lib.Hide
import Derived.Maps.AppendAt
import Derived.Maps.GroupsBeside
import Derived.Maps.Range
import Derived.Laws.MakeOwn
import Derived.Laws.Rows
import Derived.Laws.Tables
import Derived.Deep.MidRow

-- F8
namespace Go.Proofs.Yteaefambkagpbaa.F
open Go.RowKit Go.Proofs.YteaefambkagpbaaW.PrintWords Go.Proofs.YteaefambkagpbaaW.PrintLast Go.Proofs.YteaefambkagpbaaW.PrintMore
attribute [local go_sem] max2_int min2_int max_two min_two max_three min_three max_four min_four   -- for this text's walks alone
set_option linter.unusedVariables false
set_option linter.unusedSimpArgs false

/-! ### strongroomref26_Right: function 8 -/
def strongroomref26_Right.j0 : Nat → Bool → Bool → Int → Bool → ByteArray → Int → Option (Bool)
  | 0, _, _, _, _, _, _ => none
  | k + 1, x10, x116000, x116001, x116002, x116003, x116004 => if x10 = true then (some false) else (if x116000 = true then (if x116004 ≥ 0 then (if x116004 ≤ 65535 then (if (Int.tmod x116004 2) = 0 then (if x116002 = true then (some false) else (some (x116003.toList == ([] : List UInt8)))) else (some false)) else (some false)) else (some false)) else (if x116004 = 0 then (if (x116003.size : Int) > 200 then (some false) else (if x116002 = true then (some true) else (some ((x116003.size : Int) == 200)))) else (some false)))
def strongroomref26_Right.f (k : Nat) (a0_0 : Bool) (a0_1 : Int) (a0_2 : Bool) (a0_3 : ByteArray) (a0_4 : Int) : Option (Bool) := if a0_1 < 0 then (strongroomref26_Right.j0 k true a0_0 a0_1 a0_2 a0_3 a0_4) else (strongroomref26_Right.j0 k (decide (a0_1 > 1099511627776)) a0_0 a0_1 a0_2 a0_3 a0_4)
theorem strongroomref26_Right.mono_l : ∀ k, (∀ y0 y1 y2 y3 y4 y5, LeO (strongroomref26_Right.j0 k y0 y1 y2 y3 y4 y5) (strongroomref26_Right.j0 (k + 1) y0 y1 y2 y3 y4 y5))
  | 0 => fun _ _ _ _ _ _ r h => by simp [strongroomref26_Right.j0] at h
  | k + 1 => by
    have ih0 := strongroomref26_Right.mono_l k
    · intro y0 y1 y2 y3 y4 y5
      unfold strongroomref26_Right.j0
      repeat' first
      | (with_reducible exact ih0 _ _ _ _ _ _)
      | (with_reducible exact LeO.refl _)
      | (with_reducible exact LeO.none _)
      | (with_reducible refine LeO.ite ?_ ?_)
      | (with_reducible refine LeO.bind ?_ (fun _ => ?_))
      | exact ih0 _ _ _ _ _ _
      | exact LeO.none _
      | refine LeO.ite ?_ ?_
      | refine LeO.bind ?_ (fun _ => ?_)
theorem strongroomref26_Right.mono : ∀ a0 a1 a2 a3 a4 k, LeO (strongroomref26_Right.f k a0 a1 a2 a3 a4) (strongroomref26_Right.f (k + 1) a0 a1 a2 a3 a4) := by
  intro a0 a1 a2 a3 a4 k
  have ih0 := strongroomref26_Right.mono_l k
  unfold strongroomref26_Right.f
  repeat' first
      | (with_reducible exact ih0 _ _ _ _ _ _)
      | (with_reducible exact LeO.refl _)
      | (with_reducible exact LeO.none _)
      | (with_reducible refine LeO.ite ?_ ?_)
      | (with_reducible refine LeO.bind ?_ (fun _ => ?_))
      | exact ih0 _ _ _ _ _ _
      | exact LeO.none _
      | refine LeO.ite ?_ ?_
      | refine LeO.bind ?_ (fun _ => ?_)
set_option maxHeartbeats 8000000 in
set_option maxRecDepth 100000 in
theorem strongroomref26_Right.calls (k : Nat) (a0_0 : Bool) (a0_1 : Int) (a0_2 : Bool) (a0_3 : ByteArray) (a0_4 : Int) (r : Bool) (w : World) (h : strongroomref26_Right.f k a0_0 a0_1 a0_2 a0_3 a0_4 = some r) :
    Calls Try.prog 8 #[.agg #[.bool a0_0, .int .i64 a0_1, .bool a0_2, .string a0_3, .int .i64 a0_4]] w fun e w' => e = .returned (.bool r) ∧ Below w.heap.size w w' := by
  have hu23 := Try.underlying23
  have HB := Aside0.mk (Below.refl w.heap.size w)
  have H : (if a0_1 < 0 then (strongroomref26_Right.j0 k true a0_0 a0_1 a0_2 a0_3 a0_4) else (strongroomref26_Right.j0 k (decide (a0_1 > 1099511627776)) a0_0 a0_1 a0_2 a0_3 a0_4)) = some r := h
  clear h
  have HC2 := Aside0.mk H
  clear H
  go_enter Try.func8, Try.ntmps8
  go_upto_region 1 with (first | ((with_reducible refine gate_dst (N := 1) rfl ?_); (try (refine gate_guard (by rfl) ?_; dsimp only)); refine box_event ?hg (N := 1) ?hd (cs := #[.bool a0_0, .int .i64 a0_1, .bool a0_2, .string a0_3, .int .i64 a0_4]) (t := 23) ?hr ?_; (case hd => rfl); (case hg => rfl); (case hr => first | (go_simp; done) | (go_simp; rfl)); intro gb115 hg w3 hbox hb; have n0_ := Aside0.mk (below_step (by repeat (first | (with_reducible first | exact HB.out | apply below_alloc | apply pw_below_drewN | apply below_drew1) | exact HB.out)) hb); have n1_ := Aside0.mk (hbox); have n2_ := Aside0.mk ((by rw [hg]; exact (below_size (by repeat (first | (with_reducible first | exact HB.out | apply below_alloc | apply pw_below_drewN | apply below_drew1) | exact HB.out))) : w.heap.size ≤ gb115)); have n3_ := Aside0.mk ((by rw [hg]; exact (below_size (by repeat (first | (with_reducible first | exact HB.out | apply below_alloc | apply pw_below_drewN | apply below_drew1) | exact HB.out))) : w.heap.size ≤ gb115)); clear HB; have HB := n0_; have BK115 := n1_; have GW115 := n2_; have GE115 := n3_; clear n0_ n1_ n2_ n3_; clear hb hbox hg))
  (try simp only [Act.put, List.setIfInBounds_toArray, List.set_cons_zero, List.set_cons_succ])
  go_cut [10] (fun v10 wc => ∃ (kq : Nat) (x10_1 : Bool), v10 = .bool x10_1 ∧ Aside0 (strongroomref26_Right.j0 kq x10_1 a0_0 a0_1 a0_2 a0_3 a0_4 = some r) ∧ Aside0 (kq ≤ k) ∧ Aside0 (wc.heap[gb115]? = some (.cells #[.bool a0_0, .int .i64 a0_1, .bool a0_2, .string a0_3, .int .i64 a0_4] 23 (0, 0))) ∧ Aside0 (Below w.heap.size w wc))
  case first =>
    have H := HC2.out
    clear HC2
    by_cases c4 : a0_1 < 0
    · rw [if_pos c4] at H
      have c4b0 : decide (a0_1 < 0) = true := decide_eq_true c4
      clear c4
      (first | rw [c4b0] | (simp only [i64_w, i32_w]; rw [c4b0]) | skip)
      have H' := Aside0.mk H
      clear H
      have hcz5_0 : w3.cell? ⟨gb115, 0, none⟩ = some (.bool a0_0) := (blk_cell BK115.out 0).trans rfl
      have hcz5_1 : w3.cell? ⟨gb115, 1, none⟩ = some (.int .i64 a0_1) := (blk_cell BK115.out 1).trans rfl
      have hcz5_2 : w3.cell? ⟨gb115, 2, none⟩ = some (.bool a0_2) := (blk_cell BK115.out 2).trans rfl
      have hcz5_3 : w3.cell? ⟨gb115, 3, none⟩ = some (.string a0_3) := (blk_cell BK115.out 3).trans rfl
      have hcz5_4 : w3.cell? ⟨gb115, 4, none⟩ = some (.int .i64 a0_4) := (blk_cell BK115.out 4).trans rfl
      have hfz5_0 := blk_frozen BK115.out 0
      have hfz5_1 := blk_frozen BK115.out 1
      have hfz5_2 := blk_frozen BK115.out 2
      have hfz5_3 := blk_frozen BK115.out 3
      have hfz5_4 := blk_frozen BK115.out 4
      go_wp2
      go_meet
      case rel => exact ⟨_, (true), (by first | rfl | (simp; done) | (simp [*]; done)), H', ⟨by first | omega | exact Nat.le_refl _⟩, ⟨by (with_reducible repeat (first | refine blk_drewN ?_ _ | refine blk_drew ?_ | refine blk_alloc ?_ _)); exact BK115.out⟩, ⟨by repeat (first | (with_reducible first | exact HB.out | apply below_alloc | apply pw_below_drewN | apply below_drew1 | refine below_set ?_ GE115.out) | exact HB.out)⟩⟩
    · rw [if_neg c4] at H
      have c4b0 : decide (a0_1 < 0) = false := decide_eq_false c4
      clear c4
      (first | rw [c4b0] | (simp only [i64_w, i32_w]; rw [c4b0]) | skip)
      have H' := Aside0.mk H
      clear H
      have hcz6_0 : w3.cell? ⟨gb115, 0, none⟩ = some (.bool a0_0) := (blk_cell BK115.out 0).trans rfl
      have hcz6_1 : w3.cell? ⟨gb115, 1, none⟩ = some (.int .i64 a0_1) := (blk_cell BK115.out 1).trans rfl
      have hcz6_2 : w3.cell? ⟨gb115, 2, none⟩ = some (.bool a0_2) := (blk_cell BK115.out 2).trans rfl
      have hcz6_3 : w3.cell? ⟨gb115, 3, none⟩ = some (.string a0_3) := (blk_cell BK115.out 3).trans rfl
      have hcz6_4 : w3.cell? ⟨gb115, 4, none⟩ = some (.int .i64 a0_4) := (blk_cell BK115.out 4).trans rfl
      have hfz6_0 := blk_frozen BK115.out 0
      have hfz6_1 := blk_frozen BK115.out 1
      have hfz6_2 := blk_frozen BK115.out 2
      have hfz6_3 := blk_frozen BK115.out 3
      have hfz6_4 := blk_frozen BK115.out 4
      go_wp2
      go_meet
      case rel => exact ⟨_, (decide (a0_1 > 1099511627776)), (by first | rfl | (simp; done) | (simp [*]; done)), H', ⟨by first | omega | exact Nat.le_refl _⟩, ⟨by (with_reducible repeat (first | refine blk_drewN ?_ _ | refine blk_drew ?_ | refine blk_alloc ?_ _)); exact BK115.out⟩, ⟨by repeat (first | (with_reducible first | exact HB.out | apply below_alloc | apply pw_below_drewN | apply below_drew1 | refine below_set ?_ GE115.out) | exact HB.out)⟩⟩
  case rest =>
    clear HC2
    try clear p2
    try clear c4
    try clear c4b0
    try clear hcz5_0
    try clear hcz5_1
    try clear hcz5_2
    try clear hcz5_3
    try clear hcz5_4
    try clear hcz6_0
    try clear hcz6_1
    try clear hcz6_2
    try clear hcz6_3
    try clear hcz6_4
    try clear hfz5_0
    try clear hfz5_1
    try clear hfz5_2
    try clear hfz5_3
    try clear hfz5_4
    try clear hfz6_0
    try clear hfz6_1
    try clear hfz6_2
    try clear hfz6_3
    try clear hfz6_4
    obtain ⟨kq, x10_1, rfl, HA, HJ1, BK115, HB⟩ := hcut
    cases kq with
    | zero => exact absurd HA.out (by simp [strongroomref26_Right.j0])
    | succ kj1 =>
      have H := HA.out
      clear HA
      simp only [strongroomref26_Right.j0] at H
      by_cases c7 : x10_1 = true
      · subst c7
        have H1 : (some false) = some r := by rw [if_pos rfl] at H; exact H
        clear H
        have H := H1
        clear H1
        obtain rfl := Option.some.inj H
        go_wp2
        go_ret
        exact ⟨by first | rfl | (simp [errW_none, errW_some] <;> rfl) | (simp [*, errW_none, errW_some] <;> rfl), by repeat (first | (with_reducible first | exact HB.out | apply below_alloc | apply pw_below_drewN | apply below_drew1 | refine below_set ?_ GE115.out) | exact HB.out)⟩
      · replace c7 := Bool.eq_false_iff.mpr c7
        subst c7
        have H1 : (if a0_0 = true then (if a0_4 ≥ 0 then (if a0_4 ≤ 65535 then (if (Int.tmod a0_4 2) = 0 then (if a0_2 = true then (some false) else (some (a0_3.toList == ([] : List UInt8)))) else (some false)) else (some false)) else (some false)) else (if a0_4 = 0 then (if (a0_3.size : Int) > 200 then (some false) else (if a0_2 = true then (some true) else (some ((a0_3.size : Int) == 200)))) else (some false))) = some r := by rw [if_neg (show ¬ (false = true) by decide)] at H; exact H
        clear H
        have H := H1
        clear H1
        by_cases c8 : a0_0 = true
        · subst c8
          have H1 : (if a0_4 ≥ 0 then (if a0_4 ≤ 65535 then (if (Int.tmod a0_4 2) = 0 then (if a0_2 = true then (some false) else (some (a0_3.toList == ([] : List UInt8)))) else (some false)) else (some false)) else (some false)) = some r := by rw [if_pos rfl] at H; exact H
          clear H
          have H := H1
          clear H1
          by_cases c9 : a0_4 ≥ 0
          · rw [if_pos c9] at H
            have c9b0 : decide (0 ≤ a0_4) = true := decide_eq_true c9
            clear c9
            by_cases c10 : a0_4 ≤ 65535
            · rw [if_pos c10] at H
              have c10b0 : decide (a0_4 ≤ 65535) = true := decide_eq_true c10
              clear c10
              by_cases c11 : (Int.tmod a0_4 2) = 0
              · rw [if_pos c11] at H
                have c11b0 : ((Int.tmod a0_4 2) == 0) = true := beq_iff_eq.mpr c11
                have c11b1 : ((Int.tmod a0_4 2) != 0) = false := bne_eq_false_iff_eq.mpr c11
                clear c11
                by_cases c12 : a0_2 = true
                · subst c12
                  have H1 : (some false) = some r := by rw [if_pos rfl] at H; exact H
                  clear H
                  have H := H1
                  clear H1
                  obtain rfl := Option.some.inj H
                  have hcz13_0 : wc.cell? ⟨gb115, 0, none⟩ = some (.bool true) := (blk_cell BK115.out 0).trans rfl
                  have hcz13_1 : wc.cell? ⟨gb115, 1, none⟩ = some (.int .i64 a0_1) := (blk_cell BK115.out 1).trans rfl
                  have hcz13_2 : wc.cell? ⟨gb115, 2, none⟩ = some (.bool true) := (blk_cell BK115.out 2).trans rfl
                  have hcz13_3 : wc.cell? ⟨gb115, 3, none⟩ = some (.string a0_3) := (blk_cell BK115.out 3).trans rfl
                  have hcz13_4 : wc.cell? ⟨gb115, 4, none⟩ = some (.int .i64 a0_4) := (blk_cell BK115.out 4).trans rfl
                  have hfz13_0 := blk_frozen BK115.out 0
                  have hfz13_1 := blk_frozen BK115.out 1
                  have hfz13_2 := blk_frozen BK115.out 2
                  have hfz13_3 := blk_frozen BK115.out 3
                  have hfz13_4 := blk_frozen BK115.out 4
                  go_wp2
                  go_ret
                  exact ⟨by first | rfl | (simp [errW_none, errW_some] <;> rfl) | (simp [*, errW_none, errW_some] <;> rfl), by repeat (first | (with_reducible first | exact HB.out | apply below_alloc | apply pw_below_drewN | apply below_drew1 | refine below_set ?_ GE115.out) | exact HB.out)⟩
                · replace c12 := Bool.eq_false_iff.mpr c12
                  subst c12
                  have H1 : (some (a0_3.toList == ([] : List UInt8))) = some r := by rw [if_neg (show ¬ (false = true) by decide)] at H; exact H
                  clear H
                  have H := H1
                  clear H1
                  obtain rfl := Option.some.inj H
                  have hcz14_0 : wc.cell? ⟨gb115, 0, none⟩ = some (.bool true) := (blk_cell BK115.out 0).trans rfl
                  have hcz14_1 : wc.cell? ⟨gb115, 1, none⟩ = some (.int .i64 a0_1) := (blk_cell BK115.out 1).trans rfl
                  have hcz14_2 : wc.cell? ⟨gb115, 2, none⟩ = some (.bool false) := (blk_cell BK115.out 2).trans rfl
                  have hcz14_3 : wc.cell? ⟨gb115, 3, none⟩ = some (.string a0_3) := (blk_cell BK115.out 3).trans rfl
                  have hcz14_4 : wc.cell? ⟨gb115, 4, none⟩ = some (.int .i64 a0_4) := (blk_cell BK115.out 4).trans rfl
                  have hfz14_0 := blk_frozen BK115.out 0
                  have hfz14_1 := blk_frozen BK115.out 1
                  have hfz14_2 := blk_frozen BK115.out 2
                  have hfz14_3 := blk_frozen BK115.out 3
                  have hfz14_4 := blk_frozen BK115.out 4
                  go_wp2
                  go_ret
                  exact ⟨by first | rfl | (simp [errW_none, errW_some] <;> rfl) | (simp [*, errW_none, errW_some] <;> rfl), by repeat (first | (with_reducible first | exact HB.out | apply below_alloc | apply pw_below_drewN | apply below_drew1 | refine below_set ?_ GE115.out) | exact HB.out)⟩
              · rw [if_neg c11] at H
                have c11b0 : ((Int.tmod a0_4 2) == 0) = false := beq_eq_false_iff_ne.mpr c11
                have c11b1 : ((Int.tmod a0_4 2) != 0) = true := bne_iff_ne.mpr c11
                obtain rfl := Option.some.inj H
                have hcz15_0 : wc.cell? ⟨gb115, 0, none⟩ = some (.bool true) := (blk_cell BK115.out 0).trans rfl
                have hcz15_1 : wc.cell? ⟨gb115, 1, none⟩ = some (.int .i64 a0_1) := (blk_cell BK115.out 1).trans rfl
                have hcz15_2 : wc.cell? ⟨gb115, 2, none⟩ = some (.bool a0_2) := (blk_cell BK115.out 2).trans rfl
                have hcz15_3 : wc.cell? ⟨gb115, 3, none⟩ = some (.string a0_3) := (blk_cell BK115.out 3).trans rfl
                have hcz15_4 : wc.cell? ⟨gb115, 4, none⟩ = some (.int .i64 a0_4) := (blk_cell BK115.out 4).trans rfl
                have hfz15_0 := blk_frozen BK115.out 0
                have hfz15_1 := blk_frozen BK115.out 1
                have hfz15_2 := blk_frozen BK115.out 2
                have hfz15_3 := blk_frozen BK115.out 3
                have hfz15_4 := blk_frozen BK115.out 4
                go_wp2
                go_ret
                exact ⟨by first | rfl | (simp [errW_none, errW_some] <;> rfl) | (simp [*, errW_none, errW_some] <;> rfl), by repeat (first | (with_reducible first | exact HB.out | apply below_alloc | apply pw_below_drewN | apply below_drew1 | refine below_set ?_ GE115.out) | exact HB.out)⟩
            · rw [if_neg c10] at H
              have c10b0 : decide (a0_4 ≤ 65535) = false := decide_eq_false c10
              clear c10
              obtain rfl := Option.some.inj H
              have hcz16_0 : wc.cell? ⟨gb115, 0, none⟩ = some (.bool true) := (blk_cell BK115.out 0).trans rfl
              have hcz16_1 : wc.cell? ⟨gb115, 1, none⟩ = some (.int .i64 a0_1) := (blk_cell BK115.out 1).trans rfl
              have hcz16_2 : wc.cell? ⟨gb115, 2, none⟩ = some (.bool a0_2) := (blk_cell BK115.out 2).trans rfl
              have hcz16_3 : wc.cell? ⟨gb115, 3, none⟩ = some (.string a0_3) := (blk_cell BK115.out 3).trans rfl
              have hcz16_4 : wc.cell? ⟨gb115, 4, none⟩ = some (.int .i64 a0_4) := (blk_cell BK115.out 4).trans rfl
              have hfz16_0 := blk_frozen BK115.out 0
              have hfz16_1 := blk_frozen BK115.out 1
              have hfz16_2 := blk_frozen BK115.out 2
              have hfz16_3 := blk_frozen BK115.out 3
              have hfz16_4 := blk_frozen BK115.out 4
              go_wp2
              go_ret
              exact ⟨by first | rfl | (simp [errW_none, errW_some] <;> rfl) | (simp [*, errW_none, errW_some] <;> rfl), by repeat (first | (with_reducible first | exact HB.out | apply below_alloc | apply pw_below_drewN | apply below_drew1 | refine below_set ?_ GE115.out) | exact HB.out)⟩
          · rw [if_neg c9] at H
            have c9b0 : decide (0 ≤ a0_4) = false := decide_eq_false c9
            clear c9
            obtain rfl := Option.some.inj H
            have hcz17_0 : wc.cell? ⟨gb115, 0, none⟩ = some (.bool true) := (blk_cell BK115.out 0).trans rfl
            have hcz17_1 : wc.cell? ⟨gb115, 1, none⟩ = some (.int .i64 a0_1) := (blk_cell BK115.out 1).trans rfl
            have hcz17_2 : wc.cell? ⟨gb115, 2, none⟩ = some (.bool a0_2) := (blk_cell BK115.out 2).trans rfl
            have hcz17_3 : wc.cell? ⟨gb115, 3, none⟩ = some (.string a0_3) := (blk_cell BK115.out 3).trans rfl
            have hcz17_4 : wc.cell? ⟨gb115, 4, none⟩ = some (.int .i64 a0_4) := (blk_cell BK115.out 4).trans rfl
            have hfz17_0 := blk_frozen BK115.out 0
            have hfz17_1 := blk_frozen BK115.out 1
            have hfz17_2 := blk_frozen BK115.out 2
            have hfz17_3 := blk_frozen BK115.out 3
            have hfz17_4 := blk_frozen BK115.out 4
            go_wp2
            go_ret
            exact ⟨by first | rfl | (simp [errW_none, errW_some] <;> rfl) | (simp [*, errW_none, errW_some] <;> rfl), by repeat (first | (with_reducible first | exact HB.out | apply below_alloc | apply pw_below_drewN | apply below_drew1 | refine below_set ?_ GE115.out) | exact HB.out)⟩
        · replace c8 := Bool.eq_false_iff.mpr c8
          subst c8
          have H1 : (if a0_4 = 0 then (if (a0_3.size : Int) > 200 then (some false) else (if a0_2 = true then (some true) else (some ((a0_3.size : Int) == 200)))) else (some false)) = some r := by rw [if_neg (show ¬ (false = true) by decide)] at H; exact H
          clear H
          have H := H1
          clear H1
          by_cases c18 : a0_4 = 0
          · rw [if_pos c18] at H
            have c18b0 : (a0_4 == 0) = true := beq_iff_eq.mpr c18
            have c18b1 : (a0_4 != 0) = false := bne_eq_false_iff_eq.mpr c18
            clear c18
            by_cases c19 : (a0_3.size : Int) > 200
            · rw [if_pos c19] at H
              have c19b0 : decide (200 < (a0_3.size : Int)) = true := decide_eq_true c19
              have c19b1 : decide (200 < a0_3.size) = true := decide_eq_true (by omega)
              clear c19
              obtain rfl := Option.some.inj H
              have hcz20_0 : wc.cell? ⟨gb115, 0, none⟩ = some (.bool false) := (blk_cell BK115.out 0).trans rfl
              have hcz20_1 : wc.cell? ⟨gb115, 1, none⟩ = some (.int .i64 a0_1) := (blk_cell BK115.out 1).trans rfl
              have hcz20_2 : wc.cell? ⟨gb115, 2, none⟩ = some (.bool a0_2) := (blk_cell BK115.out 2).trans rfl
              have hcz20_3 : wc.cell? ⟨gb115, 3, none⟩ = some (.string a0_3) := (blk_cell BK115.out 3).trans rfl
              have hcz20_4 : wc.cell? ⟨gb115, 4, none⟩ = some (.int .i64 a0_4) := (blk_cell BK115.out 4).trans rfl
              have hfz20_0 := blk_frozen BK115.out 0
              have hfz20_1 := blk_frozen BK115.out 1
              have hfz20_2 := blk_frozen BK115.out 2
              have hfz20_3 := blk_frozen BK115.out 3
              have hfz20_4 := blk_frozen BK115.out 4
              go_wp2
              go_ret
              exact ⟨by first | rfl | (simp [errW_none, errW_some] <;> rfl) | (simp [*, errW_none, errW_some] <;> rfl), by repeat (first | (with_reducible first | exact HB.out | apply below_alloc | apply pw_below_drewN | apply below_drew1 | refine below_set ?_ GE115.out) | exact HB.out)⟩
            · rw [if_neg c19] at H
              have c19b0 : decide (200 < (a0_3.size : Int)) = false := decide_eq_false c19
              have c19b1 : decide (200 < a0_3.size) = false := decide_eq_false (by omega)
              clear c19
              by_cases c21 : a0_2 = true
              · subst c21
                have H1 : (some true) = some r := by rw [if_pos rfl] at H; exact H
                clear H
                have H := H1
                clear H1
                obtain rfl := Option.some.inj H
                have hcz22_0 : wc.cell? ⟨gb115, 0, none⟩ = some (.bool false) := (blk_cell BK115.out 0).trans rfl
                have hcz22_1 : wc.cell? ⟨gb115, 1, none⟩ = some (.int .i64 a0_1) := (blk_cell BK115.out 1).trans rfl
                have hcz22_2 : wc.cell? ⟨gb115, 2, none⟩ = some (.bool true) := (blk_cell BK115.out 2).trans rfl
                have hcz22_3 : wc.cell? ⟨gb115, 3, none⟩ = some (.string a0_3) := (blk_cell BK115.out 3).trans rfl
                have hcz22_4 : wc.cell? ⟨gb115, 4, none⟩ = some (.int .i64 a0_4) := (blk_cell BK115.out 4).trans rfl
                have hfz22_0 := blk_frozen BK115.out 0
                have hfz22_1 := blk_frozen BK115.out 1
                have hfz22_2 := blk_frozen BK115.out 2
                have hfz22_3 := blk_frozen BK115.out 3
                have hfz22_4 := blk_frozen BK115.out 4
                go_wp2
                go_ret
                exact ⟨by first | rfl | (simp [errW_none, errW_some] <;> rfl) | (simp [*, errW_none, errW_some] <;> rfl), by repeat (first | (with_reducible first | exact HB.out | apply below_alloc | apply pw_below_drewN | apply below_drew1 | refine below_set ?_ GE115.out) | exact HB.out)⟩
              · replace c21 := Bool.eq_false_iff.mpr c21
                subst c21
                have H1 : (some ((a0_3.size : Int) == 200)) = some r := by rw [if_neg (show ¬ (false = true) by decide)] at H; exact H
                clear H
                have H := H1
                clear H1
                obtain rfl := Option.some.inj H
                have hcz23_0 : wc.cell? ⟨gb115, 0, none⟩ = some (.bool false) := (blk_cell BK115.out 0).trans rfl
                have hcz23_1 : wc.cell? ⟨gb115, 1, none⟩ = some (.int .i64 a0_1) := (blk_cell BK115.out 1).trans rfl
                have hcz23_2 : wc.cell? ⟨gb115, 2, none⟩ = some (.bool false) := (blk_cell BK115.out 2).trans rfl
                have hcz23_3 : wc.cell? ⟨gb115, 3, none⟩ = some (.string a0_3) := (blk_cell BK115.out 3).trans rfl
                have hcz23_4 : wc.cell? ⟨gb115, 4, none⟩ = some (.int .i64 a0_4) := (blk_cell BK115.out 4).trans rfl
                have hfz23_0 := blk_frozen BK115.out 0
                have hfz23_1 := blk_frozen BK115.out 1
                have hfz23_2 := blk_frozen BK115.out 2
                have hfz23_3 := blk_frozen BK115.out 3
                have hfz23_4 := blk_frozen BK115.out 4
                go_wp2
                go_ret
                exact ⟨by first | rfl | (simp [errW_none, errW_some] <;> rfl) | (simp [*, errW_none, errW_some] <;> rfl), by repeat (first | (with_reducible first | exact HB.out | apply below_alloc | apply pw_below_drewN | apply below_drew1 | refine below_set ?_ GE115.out) | exact HB.out)⟩
          · rw [if_neg c18] at H
            have c18b0 : (a0_4 == 0) = false := beq_eq_false_iff_ne.mpr c18
            have c18b1 : (a0_4 != 0) = true := bne_iff_ne.mpr c18
            obtain rfl := Option.some.inj H
            have hcz24_0 : wc.cell? ⟨gb115, 0, none⟩ = some (.bool false) := (blk_cell BK115.out 0).trans rfl
            have hcz24_1 : wc.cell? ⟨gb115, 1, none⟩ = some (.int .i64 a0_1) := (blk_cell BK115.out 1).trans rfl
            have hcz24_2 : wc.cell? ⟨gb115, 2, none⟩ = some (.bool a0_2) := (blk_cell BK115.out 2).trans rfl
            have hcz24_3 : wc.cell? ⟨gb115, 3, none⟩ = some (.string a0_3) := (blk_cell BK115.out 3).trans rfl
            have hcz24_4 : wc.cell? ⟨gb115, 4, none⟩ = some (.int .i64 a0_4) := (blk_cell BK115.out 4).trans rfl
            have hfz24_0 := blk_frozen BK115.out 0
            have hfz24_1 := blk_frozen BK115.out 1
            have hfz24_2 := blk_frozen BK115.out 2
            have hfz24_3 := blk_frozen BK115.out 3
            have hfz24_4 := blk_frozen BK115.out 4
            go_wp2
            go_ret
            exact ⟨by first | rfl | (simp [errW_none, errW_some] <;> rfl) | (simp [*, errW_none, errW_some] <;> rfl), by repeat (first | (with_reducible first | exact HB.out | apply below_alloc | apply pw_below_drewN | apply below_drew1 | refine below_set ?_ GE115.out) | exact HB.out)⟩

end Go.Proofs.Yteaefambkagpbaa.F

-- F9
namespace Go.Proofs.Yteaefambkagpbaa.F
open Go.RowKit Go.Proofs.YteaefambkagpbaaW.PrintWords Go.Proofs.YteaefambkagpbaaW.PrintLast Go.Proofs.YteaefambkagpbaaW.PrintMore
attribute [local go_sem] max2_int min2_int max_two min_two max_three min_three max_four min_four   -- for this text's walks alone
set_option linter.unusedVariables false
set_option linter.unusedSimpArgs false

/-! ### link_Encode: function 9 -/
def link_Encode.j0 : Nat → Int → Bool → Int → Bool → ByteArray → Int → Option (List Int × Int)
  | 0, _, _, _, _, _, _ => none
  | k + 1, x4, x145000, x145001, x145002, x145003, x145004 => (num_Put.f k (([x4] : List Int)) (IntKind.u64.wrap (x145001))).bind fun t149 => (if x145000 = true then ((num_Put.f k t149 (IntKind.u64.wrap (x145004))).bind fun t152 => (some (t152, 0))) else ((num_PutText.f k t149 x145003).bind fun t155 => (some (t155, 0))))
def link_Encode.f (k : Nat) (a0_0 : Bool) (a0_1 : Int) (a0_2 : Bool) (a0_3 : ByteArray) (a0_4 : Int) : Option (List Int × Int) := (link_Right.f k a0_0 a0_1 a0_2 a0_3 a0_4).bind fun t145 => (if t145 = true then (if a0_0 = true then (link_Encode.j0 k 3 a0_0 a0_1 a0_2 a0_3 a0_4) else (if a0_2 = true then (link_Encode.j0 k 2 a0_0 a0_1 a0_2 a0_3 a0_4) else (link_Encode.j0 k 1 a0_0 a0_1 a0_2 a0_3 a0_4))) else (some (([] : List Int), 1)))
theorem link_Encode.mono_l : ∀ k, (∀ y0 y1 y2 y3 y4 y5, LeO (link_Encode.j0 k y0 y1 y2 y3 y4 y5) (link_Encode.j0 (k + 1) y0 y1 y2 y3 y4 y5))
  | 0 => fun _ _ _ _ _ _ r h => by simp [link_Encode.j0] at h
  | k + 1 => by
    have ih0 := link_Encode.mono_l k
    · intro y0 y1 y2 y3 y4 y5
      unfold link_Encode.j0
      repeat' first
      | (with_reducible exact ih0 _ _ _ _ _ _)
      | (with_reducible exact link_Right.mono _ _ _ _ _ _)
      | (with_reducible exact num_Put.mono _ _ _)
      | (with_reducible exact num_PutText.mono _ _ _)
      | (with_reducible exact LeO.refl _)
      | (with_reducible exact LeO.none _)
      | (with_reducible refine LeO.ite ?_ ?_)
      | (with_reducible refine LeO.bind ?_ (fun _ => ?_))
      | exact ih0 _ _ _ _ _ _
      | exact link_Right.mono _ _ _ _ _ _
      | exact num_Put.mono _ _ _
      | exact num_PutText.mono _ _ _
      | exact LeO.none _
      | refine LeO.ite ?_ ?_
      | refine LeO.bind ?_ (fun _ => ?_)
theorem link_Encode.mono : ∀ a0 a1 a2 a3 a4 k, LeO (link_Encode.f k a0 a1 a2 a3 a4) (link_Encode.f (k + 1) a0 a1 a2 a3 a4) := by
  intro a0 a1 a2 a3 a4 k
  have ih0 := link_Encode.mono_l k
  unfold link_Encode.f
  repeat' first
      | (with_reducible exact ih0 _ _ _ _ _ _)
      | (with_reducible exact link_Right.mono _ _ _ _ _ _)
      | (with_reducible exact num_Put.mono _ _ _)
      | (with_reducible exact num_PutText.mono _ _ _)
      | (with_reducible exact LeO.refl _)
      | (with_reducible exact LeO.none _)
      | (with_reducible refine LeO.ite ?_ ?_)
      | (with_reducible refine LeO.bind ?_ (fun _ => ?_))
      | exact ih0 _ _ _ _ _ _
      | exact link_Right.mono _ _ _ _ _ _
      | exact num_Put.mono _ _ _
      | exact num_PutText.mono _ _ _
      | exact LeO.none _
      | refine LeO.ite ?_ ?_
      | refine LeO.bind ?_ (fun _ => ?_)
set_option maxHeartbeats 8000000 in
set_option maxRecDepth 100000 in
theorem link_Encode.calls (k : Nat) (a0_0 : Bool) (a0_1 : Int) (a0_2 : Bool) (a0_3 : ByteArray) (a0_4 : Int) (r1 : List Int) (r2 : Int) (w : World) (h : link_Encode.f k a0_0 a0_1 a0_2 a0_3 a0_4 = some (r1, r2)) :
    Calls Try.prog 9 #[.agg #[.bool a0_0, .int .i64 a0_1, .bool a0_2, .string a0_3, .int .i64 a0_4]] w fun e w' => ∃ v0_ : Value, e = .returned (.tuple #[v0_, .int .i64 r2]) ∧ Kd.R (Kd.int .u8) 5 w' w.heap.size (fun _ => True) v0_ r1 ∧ Below w.heap.size w w' := by
  have hu30 := Try.underlying30
  have HB := Aside0.mk (Below.refl w.heap.size w)
  have H : ((link_Right.f k a0_0 a0_1 a0_2 a0_3 a0_4).bind fun t145 => (if t145 = true then (if a0_0 = true then (link_Encode.j0 k 3 a0_0 a0_1 a0_2 a0_3 a0_4) else (if a0_2 = true then (link_Encode.j0 k 2 a0_0 a0_1 a0_2 a0_3 a0_4) else (link_Encode.j0 k 1 a0_0 a0_1 a0_2 a0_3 a0_4))) else (some (([] : List Int), 1)))) = some (r1, r2) := h
  clear h
  replace H := Option.bind_eq_some_iff.mp H
  obtain ⟨t145, A20, H⟩ := H
  replace H : (if t145 = true then (if a0_0 = true then (link_Encode.j0 k 3 a0_0 a0_1 a0_2 a0_3 a0_4) else (if a0_2 = true then (link_Encode.j0 k 2 a0_0 a0_1 a0_2 a0_3 a0_4) else (link_Encode.j0 k 1 a0_0 a0_1 a0_2 a0_3 a0_4))) else (some (([] : List Int), 1))) = some (r1, r2) := H
  have A2 := Aside0.mk A20
  clear A20
  by_cases c3 : t145 = true
  · subst c3
    have H1 : (if a0_0 = true then (link_Encode.j0 k 3 a0_0 a0_1 a0_2 a0_3 a0_4) else (if a0_2 = true then (link_Encode.j0 k 2 a0_0 a0_1 a0_2 a0_3 a0_4) else (link_Encode.j0 k 1 a0_0 a0_1 a0_2 a0_3 a0_4))) = some (r1, r2) := by rw [if_pos rfl] at H; exact H
    clear H
    have H := H1
    clear H1
    have HC4 := Aside0.mk H
    clear H
    go_enter Try.func9, Try.ntmps9
    go_upto_block 0 with (first | ((with_reducible refine gate_dst (N := 1) rfl ?_); refine box_event ?hg (N := 1) ?hd (cs := #[.bool a0_0, .int .i64 a0_1, .bool a0_2, .string a0_3, .int .i64 a0_4]) (t := 30) ?hr ?_; (case hd => rfl); (case hg => rfl); (case hr => first | (go_simp; done) | (go_simp; rfl)); intro gb144 hg w5 hbox hb; have n0_ := Aside0.mk (below_step (by repeat (first | (with_reducible first | exact HB.out | apply below_alloc | apply pw_below_drewN | apply below_drew1) | exact HB.out)) hb); have n1_ := Aside0.mk (hbox); have n2_ := Aside0.mk ((by rw [hg]; exact (below_size (by repeat (first | (with_reducible first | exact HB.out | apply below_alloc | apply pw_below_drewN | apply below_drew1) | exact HB.out))) : w.heap.size ≤ gb144)); have n3_ := Aside0.mk ((by rw [hg]; exact (below_size (by repeat (first | (with_reducible first | exact HB.out | apply below_alloc | apply pw_below_drewN | apply below_drew1) | exact HB.out))) : w.heap.size ≤ gb144)); clear HB; have HB := n0_; have BK144 := n1_; have GW144 := n2_; have GE144 := n3_; clear n0_ n1_ n2_ n3_; clear hb hbox hg; have hcz6_0 : w5.cell? ⟨gb144, 0, none⟩ = some (.bool a0_0) := (blk_cell BK144.out 0).trans rfl; have hcz6_1 : w5.cell? ⟨gb144, 1, none⟩ = some (.int .i64 a0_1) := (blk_cell BK144.out 1).trans rfl; have hcz6_2 : w5.cell? ⟨gb144, 2, none⟩ = some (.bool a0_2) := (blk_cell BK144.out 2).trans rfl; have hcz6_3 : w5.cell? ⟨gb144, 3, none⟩ = some (.string a0_3) := (blk_cell BK144.out 3).trans rfl; have hcz6_4 : w5.cell? ⟨gb144, 4, none⟩ = some (.int .i64 a0_4) := (blk_cell BK144.out 4).trans rfl; have hfz6_0 := blk_frozen BK144.out 0; have hfz6_1 := blk_frozen BK144.out 1; have hfz6_2 := blk_frozen BK144.out 2; have hfz6_3 := blk_frozen BK144.out 3; have hfz6_4 := blk_frozen BK144.out 4) | ((with_reducible refine gate_callee (f := 11) rfl ?_); refine goesL_ (some 7) rfl rfl Try.func11 (by kernel_rfl) rfl #[.agg #[.bool a0_0, .int .i64 a0_1, .bool a0_2, .string a0_3, .int .i64 a0_4]] rfl (by (try simp only [List.map_toArray, List.map_cons, List.map_nil]); first | done | rfl | (simp only [List.length_drop, List.length_take]; rfl)) ?_; (with_reducible refine (link_Right.calls k a0_0 a0_1 a0_2 a0_3 a0_4 true _ A2.out).mono ?_); rintro e w7 ⟨rfl, hb⟩; refine ⟨_, rfl, ?_⟩; have n0_ := Aside0.mk (blk_below (g := gb144) (o := .cells #[.bool a0_0, .int .i64 a0_1, .bool a0_2, .string a0_3, .int .i64 a0_4] 30 (0, 0)) (by (with_reducible repeat (first | refine blk_drewN ?_ _ | refine blk_drew ?_ | refine blk_alloc ?_ _)); exact BK144.out) hb); have n1_ := Aside0.mk (below_step (by repeat (first | (with_reducible first | exact HB.out | apply below_alloc | apply pw_below_drewN | apply below_drew1 | refine below_set ?_ GE144.out) | exact HB.out)) hb); clear BK144; clear HB; have BK144 := n0_; have HB := n1_; clear n0_ n1_; (try clear hb); (try clear hb2); (try clear hk); (try clear hi)))
    (try simp only [Act.put, List.setIfInBounds_toArray, List.set_cons_zero, List.set_cons_succ])
    go_cut [4] (fun v4 wc => ∃ (kq : Nat) (x4_3 : Int), v4 = .int .u8 x4_3 ∧ Aside0 (link_Encode.j0 kq x4_3 a0_0 a0_1 a0_2 a0_3 a0_4 = some (r1, r2)) ∧ Aside0 (kq ≤ k) ∧ Aside0 (wc.heap[gb144]? = some (.cells #[.bool a0_0, .int .i64 a0_1, .bool a0_2, .string a0_3, .int .i64 a0_4] 30 (0, 0))) ∧ Aside0 (Below w.heap.size w wc))
    case first =>
      have H := HC4.out
      clear HC4
      by_cases c8 : a0_0 = true
      · subst c8
        have H1 : (link_Encode.j0 k 3 true a0_1 a0_2 a0_3 a0_4) = some (r1, r2) := by rw [if_pos rfl] at H; exact H
        clear H
        have H := H1
        clear H1
        have H' := Aside0.mk H
        clear H
        have hcz9_0 : w7.cell? ⟨gb144, 0, none⟩ = some (.bool true) := (blk_cell BK144.out 0).trans rfl
        have hcz9_1 : w7.cell? ⟨gb144, 1, none⟩ = some (.int .i64 a0_1) := (blk_cell BK144.out 1).trans rfl
        have hcz9_2 : w7.cell? ⟨gb144, 2, none⟩ = some (.bool a0_2) := (blk_cell BK144.out 2).trans rfl
        have hcz9_3 : w7.cell? ⟨gb144, 3, none⟩ = some (.string a0_3) := (blk_cell BK144.out 3).trans rfl
        have hcz9_4 : w7.cell? ⟨gb144, 4, none⟩ = some (.int .i64 a0_4) := (blk_cell BK144.out 4).trans rfl
        have hfz9_0 := blk_frozen BK144.out 0
        have hfz9_1 := blk_frozen BK144.out 1
        have hfz9_2 := blk_frozen BK144.out 2
        have hfz9_3 := blk_frozen BK144.out 3
        have hfz9_4 := blk_frozen BK144.out 4
        go_wp2
        go_meet
        case rel => exact ⟨_, (3), (by first | rfl | (simp; done) | (simp [*]; done)), H', ⟨by first | omega | exact Nat.le_refl _⟩, ⟨by (with_reducible repeat (first | refine blk_drewN ?_ _ | refine blk_drew ?_ | refine blk_alloc ?_ _)); exact BK144.out⟩, ⟨by repeat (first | (with_reducible first | exact HB.out | apply below_alloc | apply pw_below_drewN | apply below_drew1 | refine below_set ?_ GE144.out) | exact HB.out)⟩⟩
      · replace c8 := Bool.eq_false_iff.mpr c8
        subst c8
        have H1 : (if a0_2 = true then (link_Encode.j0 k 2 false a0_1 a0_2 a0_3 a0_4) else (link_Encode.j0 k 1 false a0_1 a0_2 a0_3 a0_4)) = some (r1, r2) := by rw [if_neg (show ¬ (false = true) by decide)] at H; exact H
        clear H
        have H := H1
        clear H1
        by_cases c10 : a0_2 = true
        · subst c10
          have H1 : (link_Encode.j0 k 2 false a0_1 true a0_3 a0_4) = some (r1, r2) := by rw [if_pos rfl] at H; exact H
          clear H
          have H := H1
          clear H1
          have H' := Aside0.mk H
          clear H
          have hcz11_0 : w7.cell? ⟨gb144, 0, none⟩ = some (.bool false) := (blk_cell BK144.out 0).trans rfl
          have hcz11_1 : w7.cell? ⟨gb144, 1, none⟩ = some (.int .i64 a0_1) := (blk_cell BK144.out 1).trans rfl
          have hcz11_2 : w7.cell? ⟨gb144, 2, none⟩ = some (.bool true) := (blk_cell BK144.out 2).trans rfl
          have hcz11_3 : w7.cell? ⟨gb144, 3, none⟩ = some (.string a0_3) := (blk_cell BK144.out 3).trans rfl
          have hcz11_4 : w7.cell? ⟨gb144, 4, none⟩ = some (.int .i64 a0_4) := (blk_cell BK144.out 4).trans rfl
          have hfz11_0 := blk_frozen BK144.out 0
          have hfz11_1 := blk_frozen BK144.out 1
          have hfz11_2 := blk_frozen BK144.out 2
          have hfz11_3 := blk_frozen BK144.out 3
          have hfz11_4 := blk_frozen BK144.out 4
          go_wp2
          go_meet
          case rel => exact ⟨_, (2), (by first | rfl | (simp; done) | (simp [*]; done)), H', ⟨by first | omega | exact Nat.le_refl _⟩, ⟨by (with_reducible repeat (first | refine blk_drewN ?_ _ | refine blk_drew ?_ | refine blk_alloc ?_ _)); exact BK144.out⟩, ⟨by repeat (first | (with_reducible first | exact HB.out | apply below_alloc | apply pw_below_drewN | apply below_drew1 | refine below_set ?_ GE144.out) | exact HB.out)⟩⟩
        · replace c10 := Bool.eq_false_iff.mpr c10
          subst c10
          have H1 : (link_Encode.j0 k 1 false a0_1 false a0_3 a0_4) = some (r1, r2) := by rw [if_neg (show ¬ (false = true) by decide)] at H; exact H
          clear H
          have H := H1
          clear H1
          have H' := Aside0.mk H
          clear H
          have hcz12_0 : w7.cell? ⟨gb144, 0, none⟩ = some (.bool false) := (blk_cell BK144.out 0).trans rfl
          have hcz12_1 : w7.cell? ⟨gb144, 1, none⟩ = some (.int .i64 a0_1) := (blk_cell BK144.out 1).trans rfl
          have hcz12_2 : w7.cell? ⟨gb144, 2, none⟩ = some (.bool false) := (blk_cell BK144.out 2).trans rfl
          have hcz12_3 : w7.cell? ⟨gb144, 3, none⟩ = some (.string a0_3) := (blk_cell BK144.out 3).trans rfl
          have hcz12_4 : w7.cell? ⟨gb144, 4, none⟩ = some (.int .i64 a0_4) := (blk_cell BK144.out 4).trans rfl
          have hfz12_0 := blk_frozen BK144.out 0
          have hfz12_1 := blk_frozen BK144.out 1
          have hfz12_2 := blk_frozen BK144.out 2
          have hfz12_3 := blk_frozen BK144.out 3
          have hfz12_4 := blk_frozen BK144.out 4
          go_wp2
          go_meet
          case rel => exact ⟨_, (1), (by first | rfl | (simp; done) | (simp [*]; done)), H', ⟨by first | omega | exact Nat.le_refl _⟩, ⟨by (with_reducible repeat (first | refine blk_drewN ?_ _ | refine blk_drew ?_ | refine blk_alloc ?_ _)); exact BK144.out⟩, ⟨by repeat (first | (with_reducible first | exact HB.out | apply below_alloc | apply pw_below_drewN | apply below_drew1 | refine below_set ?_ GE144.out) | exact HB.out)⟩⟩
    case rest =>
      clear HC4
      try clear c1
      try clear p2
      try clear c3
      try clear c8
      try clear c9
      try clear c10
      try clear c11
      try clear hcz11_0
      try clear hcz11_1
      try clear hcz11_2
      try clear hcz11_3
      try clear hcz11_4
      try clear hcz12_0
      try clear hcz12_1
      try clear hcz12_2
      try clear hcz12_3
      try clear hcz12_4
      try clear hcz6_0
      try clear hcz6_1
      try clear hcz6_2
      try clear hcz6_3
      try clear hcz6_4
      try clear hcz9_0
      try clear hcz9_1
      try clear hcz9_2
      try clear hcz9_3
      try clear hcz9_4
      try clear hfz11_0
      try clear hfz11_1
      try clear hfz11_2
      try clear hfz11_3
      try clear hfz11_4
      try clear hfz12_0
      try clear hfz12_1
      try clear hfz12_2
      try clear hfz12_3
      try clear hfz12_4
      try clear hfz6_0
      try clear hfz6_1
      try clear hfz6_2
      try clear hfz6_3
      try clear hfz6_4
      try clear hfz9_0
      try clear hfz9_1
      try clear hfz9_2
      try clear hfz9_3
      try clear hfz9_4
      obtain ⟨kq, x4_3, rfl, HA, HJ3, BK144, HB⟩ := hcut
      cases kq with
      | zero => exact absurd HA.out (by simp [link_Encode.j0])
      | succ kj3 =>
        have H := HA.out
        clear HA
        simp only [link_Encode.j0] at H
        obtain ⟨y146, hy146⟩ : ∃ y_ : List Int, y_ = (([x4_3] : List Int)) := ⟨_, rfl⟩
        replace H : ((num_Put.f kj3 y146 (IntKind.u64.wrap (a0_1))).bind fun t149 => (if a0_0 = true then ((num_Put.f kj3 t149 (IntKind.u64.wrap (a0_4))).bind fun t152 => (some (t152, 0))) else ((num_PutText.f kj3 t149 a0_3).bind fun t155 => (some (t155, 0))))) = some (r1, r2) := by first | (rw [hy146]; with_reducible exact H) | (have H2_ := (Option.bind_some _ _).symm.trans H; rw [hy146]; with_reducible exact H2_) | (have H2_ := (Option.bind_some _ _).symm.trans H; with_reducible exact H2_) | with_reducible exact H | (rw [hy146]; exact H) | exact H
        have Ny146 := Aside0.mk hy146
        clear hy146
        replace H := Option.bind_eq_some_iff.mp H
        obtain ⟨t149, A130, H⟩ := H
        replace H : (if a0_0 = true then ((num_Put.f kj3 t149 (IntKind.u64.wrap (a0_4))).bind fun t152 => (some (t152, 0))) else ((num_PutText.f kj3 t149 a0_3).bind fun t155 => (some (t155, 0)))) = some (r1, r2) := H
        have A13 := Aside0.mk A130
        clear A130
        by_cases c14 : a0_0 = true
        · subst c14
          have H1 : ((num_Put.f kj3 t149 (IntKind.u64.wrap (a0_4))).bind fun t152 => (some (t152, 0))) = some (r1, r2) := by rw [if_pos rfl] at H; exact H
          clear H
          have H := H1
          clear H1
          replace H := Option.bind_eq_some_iff.mp H
          obtain ⟨t152, A150, H⟩ := H
          replace H : (some (t152, 0)) = some (r1, r2) := H
          have A15 := Aside0.mk A150
          clear A150
          simp only [Option.some.injEq, Prod.mk.injEq] at H
          obtain ⟨rfl, rfl⟩ := H
          go_wp2_with (first | ((with_reducible refine gate_dst (N := 16) rfl ?_); refine Kd.R_lit (Kd.int .u8) _ 5 ?hg (N := 16) ?hd (xs := ([x4_3] : List Int)) (inner := [.int .u8 x4_3]) (ok := fun _ => True) (okp := fun _ => True) ?hr ?hp (fun _ hk => hk) trivial (Below.refl _ _) (Nat.le_refl _) (by simp) ?_; (case hd => rfl); (case hg => rfl); (case hr => first | (go_simp; done) | (go_simp; rfl)); (case hp => exact (Reps.one (show Kd.M (Kd.int .u8) _ _ _ x4_3 [.int .u8 x4_3] from rfl) (Reps.none _ _))); intro v147 w16 ho17 hb hg_ hnew_; clear hg_ hnew_; (first | rw [← Ny146.out] at ho17 | (simp only [Int.reduceToNat] at ho17; rw [← Ny146.out] at ho17)); have n0_ := Aside0.mk (Kd.R_lower ho17 (below_size (by repeat (first | (with_reducible first | exact HB.out | apply below_alloc | apply pw_below_drewN | apply below_drew1 | refine below_set ?_ GE144.out) | exact HB.out)))); have n1_ := Aside0.mk (blk_below (g := gb144) (o := .cells #[.bool true, .int .i64 a0_1, .bool a0_2, .string a0_3, .int .i64 a0_4] 30 (0, 0)) (by (with_reducible repeat (first | refine blk_drewN ?_ _ | refine blk_drew ?_ | refine blk_alloc ?_ _)); exact BK144.out) hb); have n2_ := Aside0.mk (below_step (by repeat (first | (with_reducible first | exact HB.out | apply below_alloc | apply pw_below_drewN | apply below_drew1 | refine below_set ?_ GE144.out) | exact HB.out)) hb); clear BK144; clear HB; have HO148 := n0_; have BK144 := n1_; have HB := n2_; clear n0_ n1_ n2_; clear hb ho17; have hcz18_0 : w16.cell? ⟨gb144, 0, none⟩ = some (.bool true) := (blk_cell BK144.out 0).trans rfl; have hcz18_1 : w16.cell? ⟨gb144, 1, none⟩ = some (.int .i64 a0_1) := (blk_cell BK144.out 1).trans rfl; have hcz18_2 : w16.cell? ⟨gb144, 2, none⟩ = some (.bool a0_2) := (blk_cell BK144.out 2).trans rfl; have hcz18_3 : w16.cell? ⟨gb144, 3, none⟩ = some (.string a0_3) := (blk_cell BK144.out 3).trans rfl; have hcz18_4 : w16.cell? ⟨gb144, 4, none⟩ = some (.int .i64 a0_4) := (blk_cell BK144.out 4).trans rfl; have hfz18_0 := blk_frozen BK144.out 0; have hfz18_1 := blk_frozen BK144.out 1; have hfz18_2 := blk_frozen BK144.out 2; have hfz18_3 := blk_frozen BK144.out 3; have hfz18_4 := blk_frozen BK144.out 4; obtain ⟨Ao19, co19, eo19⟩ := Kd.R_slice HO148.out; subst eo19) | ((with_reducible refine gate_callee (f := 31) rfl ?_); refine goesL_ (some 20) rfl rfl Try.func31 (by kernel_rfl) rfl #[.slice Ao19 y146.length co19, .int .u64 (IntKind.u64.wrap (a0_1))] rfl (by (try simp only [List.map_toArray, List.map_cons, List.map_nil]); first | done | rfl | (simp only [List.length_drop, List.length_take]; rfl)) ?_; (with_reducible refine (num_Put.calls kj3 _ _ y146 (IntKind.u64.wrap (a0_1)) t149 _ ?side1 ?side2 A13.out).mono ?_); (case side1 => repeat (first | exact (Kd.R_reads' HO148.out).2.2 | (with_reducible refine Kd.C_alloc ?_ _) | (with_reducible refine Kd.C_drewN ?_ _) | (with_reducible refine Kd.C_drew ?_))); (case side2 => exact (Kd.R_reads' HO148.out).2.1); rintro e w20 ⟨v150, rfl, ho0, hb⟩; refine ⟨_, rfl, ?_⟩; have n0_ := Aside0.mk (Kd.R_elder' (by (with_reducible repeat (first | apply Kd.R_alloc | apply Kd.R_drewN | apply Kd.R_drew)); exact HO148.out) (Kd.R_base ho0) hb); have n1_ := Aside0.mk (Kd.R_lower (Kd.R_new' ho0 (Kd.R_lt (by (with_reducible repeat (first | apply Kd.R_alloc | apply Kd.R_drewN | apply Kd.R_drew)); exact HO148.out))) (below_size (by repeat (first | (with_reducible first | exact HB.out | apply below_alloc | apply pw_below_drewN | apply below_drew1 | refine below_set ?_ GE144.out) | exact HB.out)))); have n2_ := Aside0.mk (blk_below (g := gb144) (o := .cells #[.bool true, .int .i64 a0_1, .bool a0_2, .string a0_3, .int .i64 a0_4] 30 (0, 0)) (by (with_reducible repeat (first | refine blk_drewN ?_ _ | refine blk_drew ?_ | refine blk_alloc ?_ _)); exact BK144.out) hb); have n3_ := Aside0.mk (below_step (by repeat (first | (with_reducible first | exact HB.out | apply below_alloc | apply pw_below_drewN | apply below_drew1 | refine below_set ?_ GE144.out) | exact HB.out)) hb); clear HO148; clear BK144; clear HB; have HO148 := n0_; have HO151 := n1_; have BK144 := n2_; have HB := n3_; clear n0_ n1_ n2_ n3_; (try clear hb); (try clear hb2); (try clear hk); (try clear hi); (try clear ho0); have hcz21_0 : w20.cell? ⟨gb144, 0, none⟩ = some (.bool true) := (blk_cell BK144.out 0).trans rfl; have hcz21_1 : w20.cell? ⟨gb144, 1, none⟩ = some (.int .i64 a0_1) := (blk_cell BK144.out 1).trans rfl; have hcz21_2 : w20.cell? ⟨gb144, 2, none⟩ = some (.bool a0_2) := (blk_cell BK144.out 2).trans rfl; have hcz21_3 : w20.cell? ⟨gb144, 3, none⟩ = some (.string a0_3) := (blk_cell BK144.out 3).trans rfl; have hcz21_4 : w20.cell? ⟨gb144, 4, none⟩ = some (.int .i64 a0_4) := (blk_cell BK144.out 4).trans rfl; have hfz21_0 := blk_frozen BK144.out 0; have hfz21_1 := blk_frozen BK144.out 1; have hfz21_2 := blk_frozen BK144.out 2; have hfz21_3 := blk_frozen BK144.out 3; have hfz21_4 := blk_frozen BK144.out 4; obtain ⟨Ao22, co22, eo22⟩ := Kd.R_slice HO151.out; subst eo22) | ((with_reducible refine gate_callee (f := 31) rfl ?_); refine goesL_ (some 27) rfl rfl Try.func31 (by kernel_rfl) rfl #[.slice Ao22 t149.length co22, .int .u64 (IntKind.u64.wrap (a0_4))] rfl (by (try simp only [List.map_toArray, List.map_cons, List.map_nil]); first | done | rfl | (simp only [List.length_drop, List.length_take]; rfl)) ?_; (with_reducible refine (num_Put.calls kj3 _ _ t149 (IntKind.u64.wrap (a0_4)) t152 _ ?side1 ?side2 A15.out).mono ?_); (case side1 => repeat (first | exact (Kd.R_reads' HO151.out).2.2 | (with_reducible refine Kd.C_alloc ?_ _) | (with_reducible refine Kd.C_drewN ?_ _) | (with_reducible refine Kd.C_drew ?_))); (case side2 => exact (Kd.R_reads' HO151.out).2.1); rintro e w23 ⟨v153, rfl, ho0, hb⟩; refine ⟨_, rfl, ?_⟩; have n0_ := Aside0.mk (Kd.R_elder' (by (with_reducible repeat (first | apply Kd.R_alloc | apply Kd.R_drewN | apply Kd.R_drew)); exact HO148.out) (Kd.R_base ho0) hb); have n1_ := Aside0.mk (Kd.R_elder' (by (with_reducible repeat (first | apply Kd.R_alloc | apply Kd.R_drewN | apply Kd.R_drew)); exact HO151.out) (Kd.R_base ho0) hb); have n2_ := Aside0.mk (Kd.R_lower (Kd.R_new' (Kd.R_new' ho0 (Kd.R_lt (by (with_reducible repeat (first | apply Kd.R_alloc | apply Kd.R_drewN | apply Kd.R_drew)); exact HO148.out))) (Kd.R_lt (by (with_reducible repeat (first | apply Kd.R_alloc | apply Kd.R_drewN | apply Kd.R_drew)); exact HO151.out))) (below_size (by repeat (first | (with_reducible first | exact HB.out | apply below_alloc | apply pw_below_drewN | apply below_drew1 | refine below_set ?_ GE144.out) | exact HB.out)))); have n3_ := Aside0.mk (blk_below (g := gb144) (o := .cells #[.bool true, .int .i64 a0_1, .bool a0_2, .string a0_3, .int .i64 a0_4] 30 (0, 0)) (by (with_reducible repeat (first | refine blk_drewN ?_ _ | refine blk_drew ?_ | refine blk_alloc ?_ _)); exact BK144.out) hb); have n4_ := Aside0.mk (below_step (by repeat (first | (with_reducible first | exact HB.out | apply below_alloc | apply pw_below_drewN | apply below_drew1 | refine below_set ?_ GE144.out) | exact HB.out)) hb); clear HO148; clear HO151; clear BK144; clear HB; have HO148 := n0_; have HO151 := n1_; have HO154 := n2_; have BK144 := n3_; have HB := n4_; clear n0_ n1_ n2_ n3_ n4_; (try clear hb); (try clear hb2); (try clear hk); (try clear hi); (try clear ho0)))
          go_ret2
          exact ⟨_, by first | rfl | (simp [errW_none, errW_some] <;> rfl) | (simp [*, errW_none, errW_some] <;> rfl), by (with_reducible repeat (first | apply Kd.R_alloc | apply Kd.R_drewN | apply Kd.R_drew)); exact Kd.R_mono HO154.out (fun _ hk => trivial), by repeat (first | (with_reducible first | exact HB.out | apply below_alloc | apply pw_below_drewN | apply below_drew1 | refine below_set ?_ GE144.out) | exact HB.out)⟩
        · replace c14 := Bool.eq_false_iff.mpr c14
          subst c14
          have H1 : ((num_PutText.f kj3 t149 a0_3).bind fun t155 => (some (t155, 0))) = some (r1, r2) := by rw [if_neg (show ¬ (false = true) by decide)] at H; exact H
          clear H
          have H := H1
          clear H1
          replace H := Option.bind_eq_some_iff.mp H
          obtain ⟨t155, A240, H⟩ := H
          replace H : (some (t155, 0)) = some (r1, r2) := H
          have A24 := Aside0.mk A240
          clear A240
          simp only [Option.some.injEq, Prod.mk.injEq] at H
          obtain ⟨rfl, rfl⟩ := H
          go_wp2_with (first | ((with_reducible refine gate_dst (N := 16) rfl ?_); refine Kd.R_lit (Kd.int .u8) _ 5 ?hg (N := 16) ?hd (xs := ([x4_3] : List Int)) (inner := [.int .u8 x4_3]) (ok := fun _ => True) (okp := fun _ => True) ?hr ?hp (fun _ hk => hk) trivial (Below.refl _ _) (Nat.le_refl _) (by simp) ?_; (case hd => rfl); (case hg => rfl); (case hr => first | (go_simp; done) | (go_simp; rfl)); (case hp => exact (Reps.one (show Kd.M (Kd.int .u8) _ _ _ x4_3 [.int .u8 x4_3] from rfl) (Reps.none _ _))); intro v147 w25 ho26 hb hg_ hnew_; clear hg_ hnew_; (first | rw [← Ny146.out] at ho26 | (simp only [Int.reduceToNat] at ho26; rw [← Ny146.out] at ho26)); have n0_ := Aside0.mk (Kd.R_lower ho26 (below_size (by repeat (first | (with_reducible first | exact HB.out | apply below_alloc | apply pw_below_drewN | apply below_drew1 | refine below_set ?_ GE144.out) | exact HB.out)))); have n1_ := Aside0.mk (blk_below (g := gb144) (o := .cells #[.bool false, .int .i64 a0_1, .bool a0_2, .string a0_3, .int .i64 a0_4] 30 (0, 0)) (by (with_reducible repeat (first | refine blk_drewN ?_ _ | refine blk_drew ?_ | refine blk_alloc ?_ _)); exact BK144.out) hb); have n2_ := Aside0.mk (below_step (by repeat (first | (with_reducible first | exact HB.out | apply below_alloc | apply pw_below_drewN | apply below_drew1 | refine below_set ?_ GE144.out) | exact HB.out)) hb); clear BK144; clear HB; have HO148 := n0_; have BK144 := n1_; have HB := n2_; clear n0_ n1_ n2_; clear hb ho26; have hcz27_0 : w25.cell? ⟨gb144, 0, none⟩ = some (.bool false) := (blk_cell BK144.out 0).trans rfl; have hcz27_1 : w25.cell? ⟨gb144, 1, none⟩ = some (.int .i64 a0_1) := (blk_cell BK144.out 1).trans rfl; have hcz27_2 : w25.cell? ⟨gb144, 2, none⟩ = some (.bool a0_2) := (blk_cell BK144.out 2).trans rfl; have hcz27_3 : w25.cell? ⟨gb144, 3, none⟩ = some (.string a0_3) := (blk_cell BK144.out 3).trans rfl; have hcz27_4 : w25.cell? ⟨gb144, 4, none⟩ = some (.int .i64 a0_4) := (blk_cell BK144.out 4).trans rfl; have hfz27_0 := blk_frozen BK144.out 0; have hfz27_1 := blk_frozen BK144.out 1; have hfz27_2 := blk_frozen BK144.out 2; have hfz27_3 := blk_frozen BK144.out 3; have hfz27_4 := blk_frozen BK144.out 4; obtain ⟨Ao28, co28, eo28⟩ := Kd.R_slice HO148.out; subst eo28) | ((with_reducible refine gate_callee (f := 31) rfl ?_); refine goesL_ (some 20) rfl rfl Try.func31 (by kernel_rfl) rfl #[.slice Ao28 y146.length co28, .int .u64 (IntKind.u64.wrap (a0_1))] rfl (by (try simp only [List.map_toArray, List.map_cons, List.map_nil]); first | done | rfl | (simp only [List.length_drop, List.length_take]; rfl)) ?_; (with_reducible refine (num_Put.calls kj3 _ _ y146 (IntKind.u64.wrap (a0_1)) t149 _ ?side1 ?side2 A13.out).mono ?_); (case side1 => repeat (first | exact (Kd.R_reads' HO148.out).2.2 | (with_reducible refine Kd.C_alloc ?_ _) | (with_reducible refine Kd.C_drewN ?_ _) | (with_reducible refine Kd.C_drew ?_))); (case side2 => exact (Kd.R_reads' HO148.out).2.1); rintro e w29 ⟨v150, rfl, ho0, hb⟩; refine ⟨_, rfl, ?_⟩; have n0_ := Aside0.mk (Kd.R_elder' (by (with_reducible repeat (first | apply Kd.R_alloc | apply Kd.R_drewN | apply Kd.R_drew)); exact HO148.out) (Kd.R_base ho0) hb); have n1_ := Aside0.mk (Kd.R_lower (Kd.R_new' ho0 (Kd.R_lt (by (with_reducible repeat (first | apply Kd.R_alloc | apply Kd.R_drewN | apply Kd.R_drew)); exact HO148.out))) (below_size (by repeat (first | (with_reducible first | exact HB.out | apply below_alloc | apply pw_below_drewN | apply below_drew1 | refine below_set ?_ GE144.out) | exact HB.out)))); have n2_ := Aside0.mk (blk_below (g := gb144) (o := .cells #[.bool false, .int .i64 a0_1, .bool a0_2, .string a0_3, .int .i64 a0_4] 30 (0, 0)) (by (with_reducible repeat (first | refine blk_drewN ?_ _ | refine blk_drew ?_ | refine blk_alloc ?_ _)); exact BK144.out) hb); have n3_ := Aside0.mk (below_step (by repeat (first | (with_reducible first | exact HB.out | apply below_alloc | apply pw_below_drewN | apply below_drew1 | refine below_set ?_ GE144.out) | exact HB.out)) hb); clear HO148; clear BK144; clear HB; have HO148 := n0_; have HO151 := n1_; have BK144 := n2_; have HB := n3_; clear n0_ n1_ n2_ n3_; (try clear hb); (try clear hb2); (try clear hk); (try clear hi); (try clear ho0); have hcz30_0 : w29.cell? ⟨gb144, 0, none⟩ = some (.bool false) := (blk_cell BK144.out 0).trans rfl; have hcz30_1 : w29.cell? ⟨gb144, 1, none⟩ = some (.int .i64 a0_1) := (blk_cell BK144.out 1).trans rfl; have hcz30_2 : w29.cell? ⟨gb144, 2, none⟩ = some (.bool a0_2) := (blk_cell BK144.out 2).trans rfl; have hcz30_3 : w29.cell? ⟨gb144, 3, none⟩ = some (.string a0_3) := (blk_cell BK144.out 3).trans rfl; have hcz30_4 : w29.cell? ⟨gb144, 4, none⟩ = some (.int .i64 a0_4) := (blk_cell BK144.out 4).trans rfl; have hfz30_0 := blk_frozen BK144.out 0; have hfz30_1 := blk_frozen BK144.out 1; have hfz30_2 := blk_frozen BK144.out 2; have hfz30_3 := blk_frozen BK144.out 3; have hfz30_4 := blk_frozen BK144.out 4; obtain ⟨Ao31, co31, eo31⟩ := Kd.R_slice HO151.out; subst eo31) | ((with_reducible refine gate_callee (f := 32) rfl ?_); refine goesL_ (some 31) rfl rfl Try.func32 (by kernel_rfl) rfl #[.slice Ao31 t149.length co31, .string a0_3] rfl (by (try simp only [List.map_toArray, List.map_cons, List.map_nil]); first | done | rfl | (simp only [List.length_drop, List.length_take]; rfl)) ?_; (with_reducible refine (num_PutText.calls kj3 _ _ t149 a0_3 t155 _ ?side1 ?side2 A24.out).mono ?_); (case side1 => repeat (first | exact (Kd.R_reads' HO151.out).2.2 | (with_reducible refine Kd.C_alloc ?_ _) | (with_reducible refine Kd.C_drewN ?_ _) | (with_reducible refine Kd.C_drew ?_))); (case side2 => exact (Kd.R_reads' HO151.out).2.1); rintro e w32 ⟨v156, rfl, ho0, hb⟩; refine ⟨_, rfl, ?_⟩; have n0_ := Aside0.mk (Kd.R_elder' (by (with_reducible repeat (first | apply Kd.R_alloc | apply Kd.R_drewN | apply Kd.R_drew)); exact HO148.out) (Kd.R_base ho0) hb); have n1_ := Aside0.mk (Kd.R_elder' (by (with_reducible repeat (first | apply Kd.R_alloc | apply Kd.R_drewN | apply Kd.R_drew)); exact HO151.out) (Kd.R_base ho0) hb); have n2_ := Aside0.mk (Kd.R_lower (Kd.R_new' (Kd.R_new' ho0 (Kd.R_lt (by (with_reducible repeat (first | apply Kd.R_alloc | apply Kd.R_drewN | apply Kd.R_drew)); exact HO148.out))) (Kd.R_lt (by (with_reducible repeat (first | apply Kd.R_alloc | apply Kd.R_drewN | apply Kd.R_drew)); exact HO151.out))) (below_size (by repeat (first | (with_reducible first | exact HB.out | apply below_alloc | apply pw_below_drewN | apply below_drew1 | refine below_set ?_ GE144.out) | exact HB.out)))); have n3_ := Aside0.mk (blk_below (g := gb144) (o := .cells #[.bool false, .int .i64 a0_1, .bool a0_2, .string a0_3, .int .i64 a0_4] 30 (0, 0)) (by (with_reducible repeat (first | refine blk_drewN ?_ _ | refine blk_drew ?_ | refine blk_alloc ?_ _)); exact BK144.out) hb); have n4_ := Aside0.mk (below_step (by repeat (first | (with_reducible first | exact HB.out | apply below_alloc | apply pw_below_drewN | apply below_drew1 | refine below_set ?_ GE144.out) | exact HB.out)) hb); clear HO148; clear HO151; clear BK144; clear HB; have HO148 := n0_; have HO151 := n1_; have HO157 := n2_; have BK144 := n3_; have HB := n4_; clear n0_ n1_ n2_ n3_ n4_; (try clear hb); (try clear hb2); (try clear hk); (try clear hi); (try clear ho0)))
          go_ret2
          exact ⟨_, by first | rfl | (simp [errW_none, errW_some] <;> rfl) | (simp [*, errW_none, errW_some] <;> rfl), by (with_reducible repeat (first | apply Kd.R_alloc | apply Kd.R_drewN | apply Kd.R_drew)); exact Kd.R_mono HO157.out (fun _ hk => trivial), by repeat (first | (with_reducible first | exact HB.out | apply below_alloc | apply pw_below_drewN | apply below_drew1 | refine below_set ?_ GE144.out) | exact HB.out)⟩
  · replace c3 := Bool.eq_false_iff.mpr c3
    subst c3
    have H1 : (some (([] : List Int), 1)) = some (r1, r2) := by rw [if_neg (show ¬ (false = true) by decide)] at H; exact H
    clear H
    have H := H1
    clear H1
    simp only [Option.some.injEq, Prod.mk.injEq] at H
    obtain ⟨rfl, rfl⟩ := H
    go_enter Try.func9, Try.ntmps9
    go_wp2_with (first | ((with_reducible refine gate_dst (N := 1) rfl ?_); refine box_event ?hg (N := 1) ?hd (cs := #[.bool a0_0, .int .i64 a0_1, .bool a0_2, .string a0_3, .int .i64 a0_4]) (t := 30) ?hr ?_; (case hd => rfl); (case hg => rfl); (case hr => first | (go_simp; done) | (go_simp; rfl)); intro gb144 hg w33 hbox hb; have n0_ := Aside0.mk (below_step (by repeat (first | (with_reducible first | exact HB.out | apply below_alloc | apply pw_below_drewN | apply below_drew1) | exact HB.out)) hb); have n1_ := Aside0.mk (hbox); have n2_ := Aside0.mk ((by rw [hg]; exact (below_size (by repeat (first | (with_reducible first | exact HB.out | apply below_alloc | apply pw_below_drewN | apply below_drew1) | exact HB.out))) : w.heap.size ≤ gb144)); have n3_ := Aside0.mk ((by rw [hg]; exact (below_size (by repeat (first | (with_reducible first | exact HB.out | apply below_alloc | apply pw_below_drewN | apply below_drew1) | exact HB.out))) : w.heap.size ≤ gb144)); clear HB; have HB := n0_; have BK144 := n1_; have GW144 := n2_; have GE144 := n3_; clear n0_ n1_ n2_ n3_; clear hb hbox hg; have hcz34_0 : w33.cell? ⟨gb144, 0, none⟩ = some (.bool a0_0) := (blk_cell BK144.out 0).trans rfl; have hcz34_1 : w33.cell? ⟨gb144, 1, none⟩ = some (.int .i64 a0_1) := (blk_cell BK144.out 1).trans rfl; have hcz34_2 : w33.cell? ⟨gb144, 2, none⟩ = some (.bool a0_2) := (blk_cell BK144.out 2).trans rfl; have hcz34_3 : w33.cell? ⟨gb144, 3, none⟩ = some (.string a0_3) := (blk_cell BK144.out 3).trans rfl; have hcz34_4 : w33.cell? ⟨gb144, 4, none⟩ = some (.int .i64 a0_4) := (blk_cell BK144.out 4).trans rfl; have hfz34_0 := blk_frozen BK144.out 0; have hfz34_1 := blk_frozen BK144.out 1; have hfz34_2 := blk_frozen BK144.out 2; have hfz34_3 := blk_frozen BK144.out 3; have hfz34_4 := blk_frozen BK144.out 4) | ((with_reducible refine gate_callee (f := 11) rfl ?_); refine goesL_ (some 7) rfl rfl Try.func11 (by kernel_rfl) rfl #[.agg #[.bool a0_0, .int .i64 a0_1, .bool a0_2, .string a0_3, .int .i64 a0_4]] rfl (by (try simp only [List.map_toArray, List.map_cons, List.map_nil]); first | done | rfl | (simp only [List.length_drop, List.length_take]; rfl)) ?_; (with_reducible refine (link_Right.calls k a0_0 a0_1 a0_2 a0_3 a0_4 false _ A2.out).mono ?_); rintro e w35 ⟨rfl, hb⟩; refine ⟨_, rfl, ?_⟩; have n0_ := Aside0.mk (blk_below (g := gb144) (o := .cells #[.bool a0_0, .int .i64 a0_1, .bool a0_2, .string a0_3, .int .i64 a0_4] 30 (0, 0)) (by (with_reducible repeat (first | refine blk_drewN ?_ _ | refine blk_drew ?_ | refine blk_alloc ?_ _)); exact BK144.out) hb); have n1_ := Aside0.mk (below_step (by repeat (first | (with_reducible first | exact HB.out | apply below_alloc | apply pw_below_drewN | apply below_drew1 | refine below_set ?_ GE144.out) | exact HB.out)) hb); clear BK144; clear HB; have BK144 := n0_; have HB := n1_; clear n0_ n1_; (try clear hb); (try clear hb2); (try clear hk); (try clear hi)))
    go_ret2
    exact ⟨_, by first | rfl | (simp [errW_none, errW_some] <;> rfl) | (simp [*, errW_none, errW_some] <;> rfl), by first | exact Kd.R_nil _ _ _ _ _ | exact Kd.N_nil _ _ _ _ _ | exact Kd.V_nil _ _ _ _ _ | exact Kd.Q_nil _ _ _ _ _ | exact Kd.S_nil _ _ _ _ _, by repeat (first | (with_reducible first | exact HB.out | apply below_alloc | apply pw_below_drewN | apply below_drew1 | refine below_set ?_ GE144.out) | exact HB.out)⟩

end Go.Proofs.Yteaefambkagpbaa.F

-- F10
namespace Go.Proofs.Yteaefambkagpbaa.F
open Go.RowKit Go.Proofs.YteaefambkagpbaaW.PrintWords Go.Proofs.YteaefambkagpbaaW.PrintLast Go.Proofs.YteaefambkagpbaaW.PrintMore
attribute [local go_sem] max2_int min2_int max_two min_two max_three min_three max_four min_four   -- for this text's walks alone
set_option linter.unusedVariables false
set_option linter.unusedSimpArgs false

/-! ### strongroomlaw26_mine: function 10 -/
def strongroomlaw26_mine.f (a0_0 : Bool) (a0_1 : Int) (a0_2 : Bool) (a0_3 : ByteArray) (a0_4 : Int) : Option (Bool × Int × Bool × ByteArray × Int) := some (a0_0, a0_1, a0_2, a0_3, a0_4)
set_option maxHeartbeats 8000000 in
set_option maxRecDepth 100000 in
theorem strongroomlaw26_mine.calls (a0_0 : Bool) (a0_1 : Int) (a0_2 : Bool) (a0_3 : ByteArray) (a0_4 : Int) (r1 : Bool) (r2 : Int) (r3 : Bool) (r4 : ByteArray) (r5 : Int) (w : World) (h : strongroomlaw26_mine.f a0_0 a0_1 a0_2 a0_3 a0_4 = some (r1, r2, r3, r4, r5)) :
    Calls Try.prog 10 #[.agg #[.bool a0_0, .int .i64 a0_1, .bool a0_2, .string a0_3, .int .i64 a0_4]] w fun e w' => e = .returned (.agg #[.bool r1, .int .i64 r2, .bool r3, .string r4, .int .i64 r5]) ∧ Below w.heap.size w w' := by
  have hu23 := Try.underlying23
  have hu30 := Try.underlying30
  have HB := Aside0.mk (Below.refl w.heap.size w)
  have H : (some (a0_0, a0_1, a0_2, a0_3, a0_4)) = some (r1, r2, r3, r4, r5) := h
  clear h
  simp only [Option.some.injEq, Prod.mk.injEq] at H
  obtain ⟨rfl, rfl, rfl, rfl, rfl⟩ := H
  go_enter Try.func10, Try.ntmps10
  go_wp2_with (first | ((with_reducible refine gate_dst (N := 1) rfl ?_); refine box_event ?hg (N := 1) ?hd (cs := #[.bool a0_0, .int .i64 a0_1, .bool a0_2, .string a0_3, .int .i64 a0_4]) (t := 23) ?hr ?_; (case hd => rfl); (case hg => rfl); (case hr => first | (go_simp; done) | (go_simp; rfl)); intro gb158 hg w2 hbox hb; have n0_ := Aside0.mk (below_step (by repeat (first | (with_reducible first | exact HB.out | apply below_alloc | apply pw_below_drewN | apply below_drew1) | exact HB.out)) hb); have n1_ := Aside0.mk (hbox); have n2_ := Aside0.mk ((by rw [hg]; exact (below_size (by repeat (first | (with_reducible first | exact HB.out | apply below_alloc | apply pw_below_drewN | apply below_drew1) | exact HB.out))) : w.heap.size ≤ gb158)); have n3_ := Aside0.mk ((by rw [hg]; exact (below_size (by repeat (first | (with_reducible first | exact HB.out | apply below_alloc | apply pw_below_drewN | apply below_drew1) | exact HB.out))) : w.heap.size ≤ gb158)); clear HB; have HB := n0_; have BK158 := n1_; have GW158 := n2_; have GE158 := n3_; clear n0_ n1_ n2_ n3_; clear hb hbox hg) | ((with_reducible refine gate_dst (N := 2) rfl ?_); refine box_event ?hg (N := 2) ?hd (cs := #[.bool false, .int .i64 0, .bool false, .string (⟨#[]⟩ : ByteArray), .int .i64 0]) (t := 30) ?hr ?_; (case hd => rfl); (case hg => rfl); (case hr => first | (go_simp; done) | (go_simp; rfl)); intro gb159 hg w3 hbox hb; have n0_ := Aside0.mk (blk_below (g := gb158) (o := .cells #[.bool a0_0, .int .i64 a0_1, .bool a0_2, .string a0_3, .int .i64 a0_4] 23 (0, 0)) (by (with_reducible repeat (first | refine blk_drewN ?_ _ | refine blk_drew ?_ | refine blk_alloc ?_ _)); exact BK158.out) hb); have n1_ := Aside0.mk (below_step (by repeat (first | (with_reducible first | exact HB.out | apply below_alloc | apply pw_below_drewN | apply below_drew1 | refine below_set ?_ GE158.out) | exact HB.out)) hb); have n2_ := Aside0.mk (hbox); have n3_ := Aside0.mk ((by rw [hg]; exact (below_size (by repeat (first | (with_reducible first | exact HB.out | apply below_alloc | apply pw_below_drewN | apply below_drew1 | refine below_set ?_ GE158.out) | exact HB.out))) : w.heap.size ≤ gb159)); have n4_ := Aside0.mk ((by rw [hg]; exact (below_size (by repeat (first | (with_reducible first | exact HB.out | apply below_alloc | apply pw_below_drewN | apply below_drew1 | refine below_set ?_ GE158.out) | exact HB.out))) : w.heap.size ≤ gb159)); have n5_ := Aside0.mk ((by rw [hg]; exact Nat.ne_of_lt (blk_lt (g := gb158) (o := .cells #[.bool a0_0, .int .i64 a0_1, .bool a0_2, .string a0_3, .int .i64 a0_4] 23 (0, 0)) (by (with_reducible repeat (first | refine blk_drewN ?_ _ | refine blk_drew ?_ | refine blk_alloc ?_ _)); exact BK158.out)) : gb158 ≠ gb159)); have n6_ := Aside0.mk ((by rw [hg]; exact Nat.ne_of_gt (blk_lt (g := gb158) (o := .cells #[.bool a0_0, .int .i64 a0_1, .bool a0_2, .string a0_3, .int .i64 a0_4] 23 (0, 0)) (by (with_reducible repeat (first | refine blk_drewN ?_ _ | refine blk_drew ?_ | refine blk_alloc ?_ _)); exact BK158.out)) : gb159 ≠ gb158)); clear BK158; clear HB; have BK158 := n0_; have HB := n1_; have BK159 := n2_; have GW159 := n3_; have GE159 := n4_; have NB158_159 := n5_; have NB159_158 := n6_; clear n0_ n1_ n2_ n3_ n4_ n5_ n6_; clear hb hbox hg; have hnb4 := NB158_159.out; have hnc4 := NB159_158.out; have hcz5_0 : w3.cell? ⟨gb158, 0, none⟩ = some (.bool a0_0) := (blk_cell BK158.out 0).trans rfl; have hcz5_1 : w3.cell? ⟨gb158, 1, none⟩ = some (.int .i64 a0_1) := (blk_cell BK158.out 1).trans rfl; have hcz5_2 : w3.cell? ⟨gb158, 2, none⟩ = some (.bool a0_2) := (blk_cell BK158.out 2).trans rfl; have hcz5_3 : w3.cell? ⟨gb158, 3, none⟩ = some (.string a0_3) := (blk_cell BK158.out 3).trans rfl; have hcz5_4 : w3.cell? ⟨gb158, 4, none⟩ = some (.int .i64 a0_4) := (blk_cell BK158.out 4).trans rfl; have hfz5_0 := blk_frozen BK158.out 0; have hfz5_1 := blk_frozen BK158.out 1; have hfz5_2 := blk_frozen BK158.out 2; have hfz5_3 := blk_frozen BK158.out 3; have hfz5_4 := blk_frozen BK158.out 4; have hcz6_0 : w3.cell? ⟨gb159, 0, none⟩ = some (.bool false) := (blk_cell BK159.out 0).trans rfl; have hcz6_1 : w3.cell? ⟨gb159, 1, none⟩ = some (.int .i64 0) := (blk_cell BK159.out 1).trans rfl; have hcz6_2 : w3.cell? ⟨gb159, 2, none⟩ = some (.bool false) := (blk_cell BK159.out 2).trans rfl; have hcz6_3 : w3.cell? ⟨gb159, 3, none⟩ = some (.string (⟨#[]⟩ : ByteArray)) := (blk_cell BK159.out 3).trans rfl; have hcz6_4 : w3.cell? ⟨gb159, 4, none⟩ = some (.int .i64 0) := (blk_cell BK159.out 4).trans rfl; have hfz6_0 := blk_frozen BK159.out 0; have hfz6_1 := blk_frozen BK159.out 1; have hfz6_2 := blk_frozen BK159.out 2; have hfz6_3 := blk_frozen BK159.out 3; have hfz6_4 := blk_frozen BK159.out 4))
  refine bodyPost_ret (results_cell_row rfl _ _ gb159 30 #[.bool a0_0, .int .i64 a0_1, .bool a0_2, .string a0_3, .int .i64 a0_4] (0, 0) _ rfl (by (with_reducible repeat (first | refine blk_drewN ?_ _ | refine blk_drew ?_ | refine blk_alloc ?_ _)); refine blk_put (cs := #[.bool a0_0, .int .i64 a0_1, .bool a0_2, .string a0_3, .int .i64 0]) ?_ 4 _ rfl; (with_reducible repeat (first | refine blk_drewN ?_ _ | refine blk_drew ?_ | refine blk_alloc ?_ _)); refine blk_put (cs := #[.bool a0_0, .int .i64 a0_1, .bool a0_2, .string (⟨#[]⟩ : ByteArray), .int .i64 0]) ?_ 3 _ rfl; (with_reducible repeat (first | refine blk_drewN ?_ _ | refine blk_drew ?_ | refine blk_alloc ?_ _)); refine blk_put (cs := #[.bool a0_0, .int .i64 a0_1, .bool false, .string (⟨#[]⟩ : ByteArray), .int .i64 0]) ?_ 2 _ rfl; (with_reducible repeat (first | refine blk_drewN ?_ _ | refine blk_drew ?_ | refine blk_alloc ?_ _)); refine blk_put (cs := #[.bool a0_0, .int .i64 0, .bool false, .string (⟨#[]⟩ : ByteArray), .int .i64 0]) ?_ 1 _ rfl; (with_reducible repeat (first | refine blk_drewN ?_ _ | refine blk_drew ?_ | refine blk_alloc ?_ _)); refine blk_put (cs := #[.bool false, .int .i64 0, .bool false, .string (⟨#[]⟩ : ByteArray), .int .i64 0]) ?_ 0 _ rfl; (with_reducible repeat (first | refine blk_drewN ?_ _ | refine blk_drew ?_ | refine blk_alloc ?_ _)); exact BK159.out) Try.underlying30 rfl (by kernel_rfl)) rfl ?_
  exact ⟨by first | rfl | (simp [errW_none, errW_some] <;> rfl) | (simp [*, errW_none, errW_some] <;> rfl), by repeat (first | (with_reducible first | exact HB.out | apply below_alloc | apply pw_below_drewN | apply below_drew1 | refine below_set ?_ GE158.out | refine below_set ?_ GE159.out) | exact HB.out)⟩

end Go.Proofs.Yteaefambkagpbaa.F

-- F14
namespace Go.Proofs.Yteaefambkagpbaa.F
open Go.RowKit Go.Proofs.YteaefambkagpbaaW.PrintWords Go.Proofs.YteaefambkagpbaaW.PrintLast Go.Proofs.YteaefambkagpbaaW.PrintMore
attribute [local go_sem] max2_int min2_int max_two min_two max_three min_three max_four min_four   -- for this text's walks alone
set_option linter.unusedVariables false
set_option linter.unusedSimpArgs false

/-! ### strongroomlaw26_theirs: function 14 -/
def strongroomlaw26_theirs.f (a0_0 : Bool) (a0_1 : Int) (a0_2 : Bool) (a0_3 : ByteArray) (a0_4 : Int) : Option (Bool × Int × Bool × ByteArray × Int) := some (a0_0, a0_1, a0_2, a0_3, a0_4)
set_option maxHeartbeats 8000000 in
set_option maxRecDepth 100000 in
theorem strongroomlaw26_theirs.calls (a0_0 : Bool) (a0_1 : Int) (a0_2 : Bool) (a0_3 : ByteArray) (a0_4 : Int) (r1 : Bool) (r2 : Int) (r3 : Bool) (r4 : ByteArray) (r5 : Int) (w : World) (h : strongroomlaw26_theirs.f a0_0 a0_1 a0_2 a0_3 a0_4 = some (r1, r2, r3, r4, r5)) :
    Calls Try.prog 14 #[.agg #[.bool a0_0, .int .i64 a0_1, .bool a0_2, .string a0_3, .int .i64 a0_4]] w fun e w' => e = .returned (.agg #[.bool r1, .int .i64 r2, .bool r3, .string r4, .int .i64 r5]) ∧ Below w.heap.size w w' := by
  have hu30 := Try.underlying30
  have hu23 := Try.underlying23
  have HB := Aside0.mk (Below.refl w.heap.size w)
  have H : (some (a0_0, a0_1, a0_2, a0_3, a0_4)) = some (r1, r2, r3, r4, r5) := h
  clear h
  simp only [Option.some.injEq, Prod.mk.injEq] at H
  obtain ⟨rfl, rfl, rfl, rfl, rfl⟩ := H
  go_enter Try.func14, Try.ntmps14
  go_wp2_with (first | ((with_reducible refine gate_dst (N := 1) rfl ?_); refine box_event ?hg (N := 1) ?hd (cs := #[.bool a0_0, .int .i64 a0_1, .bool a0_2, .string a0_3, .int .i64 a0_4]) (t := 30) ?hr ?_; (case hd => rfl); (case hg => rfl); (case hr => first | (go_simp; done) | (go_simp; rfl)); intro gb195 hg w2 hbox hb; have n0_ := Aside0.mk (below_step (by repeat (first | (with_reducible first | exact HB.out | apply below_alloc | apply pw_below_drewN | apply below_drew1) | exact HB.out)) hb); have n1_ := Aside0.mk (hbox); have n2_ := Aside0.mk ((by rw [hg]; exact (below_size (by repeat (first | (with_reducible first | exact HB.out | apply below_alloc | apply pw_below_drewN | apply below_drew1) | exact HB.out))) : w.heap.size ≤ gb195)); have n3_ := Aside0.mk ((by rw [hg]; exact (below_size (by repeat (first | (with_reducible first | exact HB.out | apply below_alloc | apply pw_below_drewN | apply below_drew1) | exact HB.out))) : w.heap.size ≤ gb195)); clear HB; have HB := n0_; have BK195 := n1_; have GW195 := n2_; have GE195 := n3_; clear n0_ n1_ n2_ n3_; clear hb hbox hg) | ((with_reducible refine gate_dst (N := 2) rfl ?_); refine box_event ?hg (N := 2) ?hd (cs := #[.bool false, .int .i64 0, .bool false, .string (⟨#[]⟩ : ByteArray), .int .i64 0]) (t := 23) ?hr ?_; (case hd => rfl); (case hg => rfl); (case hr => first | (go_simp; done) | (go_simp; rfl)); intro gb196 hg w3 hbox hb; have n0_ := Aside0.mk (blk_below (g := gb195) (o := .cells #[.bool a0_0, .int .i64 a0_1, .bool a0_2, .string a0_3, .int .i64 a0_4] 30 (0, 0)) (by (with_reducible repeat (first | refine blk_drewN ?_ _ | refine blk_drew ?_ | refine blk_alloc ?_ _)); exact BK195.out) hb); have n1_ := Aside0.mk (below_step (by repeat (first | (with_reducible first | exact HB.out | apply below_alloc | apply pw_below_drewN | apply below_drew1 | refine below_set ?_ GE195.out) | exact HB.out)) hb); have n2_ := Aside0.mk (hbox); have n3_ := Aside0.mk ((by rw [hg]; exact (below_size (by repeat (first | (with_reducible first | exact HB.out | apply below_alloc | apply pw_below_drewN | apply below_drew1 | refine below_set ?_ GE195.out) | exact HB.out))) : w.heap.size ≤ gb196)); have n4_ := Aside0.mk ((by rw [hg]; exact (below_size (by repeat (first | (with_reducible first | exact HB.out | apply below_alloc | apply pw_below_drewN | apply below_drew1 | refine below_set ?_ GE195.out) | exact HB.out))) : w.heap.size ≤ gb196)); have n5_ := Aside0.mk ((by rw [hg]; exact Nat.ne_of_lt (blk_lt (g := gb195) (o := .cells #[.bool a0_0, .int .i64 a0_1, .bool a0_2, .string a0_3, .int .i64 a0_4] 30 (0, 0)) (by (with_reducible repeat (first | refine blk_drewN ?_ _ | refine blk_drew ?_ | refine blk_alloc ?_ _)); exact BK195.out)) : gb195 ≠ gb196)); have n6_ := Aside0.mk ((by rw [hg]; exact Nat.ne_of_gt (blk_lt (g := gb195) (o := .cells #[.bool a0_0, .int .i64 a0_1, .bool a0_2, .string a0_3, .int .i64 a0_4] 30 (0, 0)) (by (with_reducible repeat (first | refine blk_drewN ?_ _ | refine blk_drew ?_ | refine blk_alloc ?_ _)); exact BK195.out)) : gb196 ≠ gb195)); clear BK195; clear HB; have BK195 := n0_; have HB := n1_; have BK196 := n2_; have GW196 := n3_; have GE196 := n4_; have NB195_196 := n5_; have NB196_195 := n6_; clear n0_ n1_ n2_ n3_ n4_ n5_ n6_; clear hb hbox hg; have hnb4 := NB195_196.out; have hnc4 := NB196_195.out; have hcz5_0 : w3.cell? ⟨gb195, 0, none⟩ = some (.bool a0_0) := (blk_cell BK195.out 0).trans rfl; have hcz5_1 : w3.cell? ⟨gb195, 1, none⟩ = some (.int .i64 a0_1) := (blk_cell BK195.out 1).trans rfl; have hcz5_2 : w3.cell? ⟨gb195, 2, none⟩ = some (.bool a0_2) := (blk_cell BK195.out 2).trans rfl; have hcz5_3 : w3.cell? ⟨gb195, 3, none⟩ = some (.string a0_3) := (blk_cell BK195.out 3).trans rfl; have hcz5_4 : w3.cell? ⟨gb195, 4, none⟩ = some (.int .i64 a0_4) := (blk_cell BK195.out 4).trans rfl; have hfz5_0 := blk_frozen BK195.out 0; have hfz5_1 := blk_frozen BK195.out 1; have hfz5_2 := blk_frozen BK195.out 2; have hfz5_3 := blk_frozen BK195.out 3; have hfz5_4 := blk_frozen BK195.out 4; have hcz6_0 : w3.cell? ⟨gb196, 0, none⟩ = some (.bool false) := (blk_cell BK196.out 0).trans rfl; have hcz6_1 : w3.cell? ⟨gb196, 1, none⟩ = some (.int .i64 0) := (blk_cell BK196.out 1).trans rfl; have hcz6_2 : w3.cell? ⟨gb196, 2, none⟩ = some (.bool false) := (blk_cell BK196.out 2).trans rfl; have hcz6_3 : w3.cell? ⟨gb196, 3, none⟩ = some (.string (⟨#[]⟩ : ByteArray)) := (blk_cell BK196.out 3).trans rfl; have hcz6_4 : w3.cell? ⟨gb196, 4, none⟩ = some (.int .i64 0) := (blk_cell BK196.out 4).trans rfl; have hfz6_0 := blk_frozen BK196.out 0; have hfz6_1 := blk_frozen BK196.out 1; have hfz6_2 := blk_frozen BK196.out 2; have hfz6_3 := blk_frozen BK196.out 3; have hfz6_4 := blk_frozen BK196.out 4))
  refine bodyPost_ret (results_cell_row rfl _ _ gb196 23 #[.bool a0_0, .int .i64 a0_1, .bool a0_2, .string a0_3, .int .i64 a0_4] (0, 0) _ rfl (by (with_reducible repeat (first | refine blk_drewN ?_ _ | refine blk_drew ?_ | refine blk_alloc ?_ _)); refine blk_put (cs := #[.bool a0_0, .int .i64 a0_1, .bool a0_2, .string a0_3, .int .i64 0]) ?_ 4 _ rfl; (with_reducible repeat (first | refine blk_drewN ?_ _ | refine blk_drew ?_ | refine blk_alloc ?_ _)); refine blk_put (cs := #[.bool a0_0, .int .i64 a0_1, .bool a0_2, .string (⟨#[]⟩ : ByteArray), .int .i64 0]) ?_ 3 _ rfl; (with_reducible repeat (first | refine blk_drewN ?_ _ | refine blk_drew ?_ | refine blk_alloc ?_ _)); refine blk_put (cs := #[.bool a0_0, .int .i64 a0_1, .bool false, .string (⟨#[]⟩ : ByteArray), .int .i64 0]) ?_ 2 _ rfl; (with_reducible repeat (first | refine blk_drewN ?_ _ | refine blk_drew ?_ | refine blk_alloc ?_ _)); refine blk_put (cs := #[.bool a0_0, .int .i64 0, .bool false, .string (⟨#[]⟩ : ByteArray), .int .i64 0]) ?_ 1 _ rfl; (with_reducible repeat (first | refine blk_drewN ?_ _ | refine blk_drew ?_ | refine blk_alloc ?_ _)); refine blk_put (cs := #[.bool false, .int .i64 0, .bool false, .string (⟨#[]⟩ : ByteArray), .int .i64 0]) ?_ 0 _ rfl; (with_reducible repeat (first | refine blk_drewN ?_ _ | refine blk_drew ?_ | refine blk_alloc ?_ _)); exact BK196.out) Try.underlying23 rfl (by kernel_rfl)) rfl ?_
  exact ⟨by first | rfl | (simp [errW_none, errW_some] <;> rfl) | (simp [*, errW_none, errW_some] <;> rfl), by repeat (first | (with_reducible first | exact HB.out | apply below_alloc | apply pw_below_drewN | apply below_drew1 | refine below_set ?_ GE195.out | refine below_set ?_ GE196.out) | exact HB.out)⟩

-- NOT PRINTED: function 3 (strongroomlaw26_LinkPackets)

end Go.Proofs.Yteaefambkagpbaa.F

-- LnkM
namespace Go.Proofs.Yteaefambkagpbaa.F
open Go Go.RowKit Go.Proofs.YteaefambkagpbaaW.PrintWords Go.Proofs.YteaefambkagpbaaW.PrintLast Go.Proofs.YteaefambkagpbaaW.PrintMore Go.Proofs.YteaefambkagpbaaM Go.Proofs.YteaefambkagpbaaR
set_option linter.unusedSimpArgs false
set_option linter.unusedVariables false
set_option maxRecDepth 100000
/-- a packet -/
structure Pk where
  r : Bool
  n : Int
  l : Bool
  d : ByteArray
  b : Int
def Pk.v (p : Pk) : Value := .agg #[.bool p.r, .int .i64 p.n, .bool p.l, .string p.d, .int .i64 p.b]
def rightP (p : Pk) : Bool :=
  decide (0 ≤ p.n ∧ p.n ≤ 1099511627776) && (if p.r then decide (0 ≤ p.b ∧ p.b < 65536 ∧ p.b % 2 = 0) && !p.l && decide (p.d.size = 0) else decide (p.d.size ≤ 200) && (p.l || decide (p.d.size = 200)) && decide (p.b = 0))
theorem and1 (x : Int) (h0 : 0 ≤ x) (h1 : x < 65536) : Go.bits .and .i64 x 1 = x % 2 := by
  have := bits_mask .i64 16 (by decide) (fun n h2 h3 => IntWalk.i64_in _ (by omega)) 1 (by decide) x (by omega) (by omega)
  rw [show ((2 : Int) ^ 1 - 1) = 1 from by decide, show ((2 : Int) ^ 1) = 2 from by decide] at this
  exact this
theorem nil_dec (d : ByteArray) : (d.toList == ([] : List UInt8)) = decide (d.size = 0) := by
  rw [Bool.eq_iff_iff]
  simp only [beq_iff_eq, decide_eq_true_eq]
  rw [ByteArray.toList_eq]
  cases d with | mk a => simp [ByteArray.size]
theorem right_f (k : Nat) (p : Pk) (hb0 : -9223372036854775808 ≤ p.b) : link_Right.f (k + 1) p.r p.n p.l p.d p.b = some (rightP p) := by
  obtain ⟨r, n, l, d, b⟩ := p
  unfold link_Right.f rightP
  simp only [link_Right.j0, nil_dec]
  by_cases h1 : n < 0
  · rw [if_pos h1]; simp; intro h; omega
  · rw [if_neg h1]
    by_cases h2 : n > 1099511627776
    · rw [if_pos (by simpa using h2)]; simp; intro h h'; omega
    · rw [if_neg (by simpa using h2)]
      have hn : decide (0 ≤ n ∧ n ≤ 1099511627776) = true := decide_eq_true (by omega)
      rw [hn, Bool.true_and]
      cases r with
      | true =>
        simp only [if_true]
        by_cases h3 : b ≥ 0
        · rw [if_pos h3]
          by_cases h4 : b < 65536
          · rw [if_pos h4, and1 b h3 h4]
            by_cases h5 : b % 2 = 0
            · rw [if_pos h5, decide_eq_true (show 0 ≤ b ∧ b < 65536 ∧ b % 2 = 0 from ⟨h3, h4, h5⟩)]
              cases l <;> simp
            · rw [if_neg h5, decide_eq_false (show ¬ (0 ≤ b ∧ b < 65536 ∧ b % 2 = 0) from fun h => h5 h.2.2)]; simp
          · rw [if_neg h4, decide_eq_false (show ¬ (0 ≤ b ∧ b < 65536 ∧ b % 2 = 0) from fun h => h4 h.2.1)]; simp
        · rw [if_neg h3, decide_eq_false (show ¬ (0 ≤ b ∧ b < 65536 ∧ b % 2 = 0) from fun h => h3 h.1)]; simp
      | false =>
        simp only [Bool.false_eq_true, if_false]
        by_cases h3 : (d.size : Int) ≤ 200
        · rw [if_pos h3, decide_eq_true (show d.size ≤ 200 by omega)]
          cases l with
          | true => simp; rfl
          | false =>
            by_cases h4 : (d.size : Int) = 200
            · rw [if_neg (by simp), if_pos h4, decide_eq_true (show d.size = 200 by omega)]; simp; rfl
            · rw [if_neg (by simp), if_neg h4, decide_eq_false (show ¬ d.size = 200 by omega)]; simp
        · rw [if_neg h3, decide_eq_false (show ¬ d.size ≤ 200 by omega)]; simp
theorem rright_f (k : Nat) (p : Pk) : strongroomref26_Right.f (k + 1) p.r p.n p.l p.d p.b = some (rightP p) := by
  obtain ⟨r, n, l, d, b⟩ := p
  unfold strongroomref26_Right.f rightP
  simp only [strongroomref26_Right.j0, nil_dec]
  by_cases h1 : n < 0
  · rw [if_pos h1]; simp; intro h; omega
  · rw [if_neg h1]
    by_cases h2 : n > 1099511627776
    · rw [if_pos (by simpa using h2)]; simp; intro h h'; omega
    · rw [if_neg (by simpa using h2)]
      have hn : decide (0 ≤ n ∧ n ≤ 1099511627776) = true := decide_eq_true (by omega)
      rw [hn, Bool.true_and]
      cases r with
      | true =>
        simp only [if_true]
        by_cases h3 : b ≥ 0
        · rw [if_pos h3]
          by_cases h4 : b ≤ 65535
          · rw [if_pos h4, Int.tmod_eq_emod_of_nonneg h3]
            by_cases h5 : b % 2 = 0
            · rw [if_pos h5, decide_eq_true (show 0 ≤ b ∧ b < 65536 ∧ b % 2 = 0 from ⟨h3, by omega, h5⟩)]
              cases l <;> simp
            · rw [if_neg h5, decide_eq_false (show ¬ (0 ≤ b ∧ b < 65536 ∧ b % 2 = 0) from fun h => h5 h.2.2)]; simp
          · rw [if_neg h4, decide_eq_false (show ¬ (0 ≤ b ∧ b < 65536 ∧ b % 2 = 0) from fun h => h4 (by omega))]; simp
        · rw [if_neg h3, decide_eq_false (show ¬ (0 ≤ b ∧ b < 65536 ∧ b % 2 = 0) from fun h => h3 h.1)]; simp
      | false =>
        simp only [Bool.false_eq_true, if_false]
        by_cases hb : b = 0
        · rw [if_pos hb, decide_eq_true hb]
          by_cases h3 : (d.size : Int) > 200
          · rw [if_pos h3, decide_eq_false (show ¬ d.size ≤ 200 by omega)]; simp
          · rw [if_neg h3, decide_eq_true (show d.size ≤ 200 by omega)]
            cases l with
            | true => simp
            | false =>
              rw [if_neg (by simp)]
              by_cases h4 : d.size = 200
              · rw [decide_eq_true h4, h4]; rfl
              · rw [decide_eq_false h4]; simp; omega
        · rw [if_neg hb, decide_eq_false hb]; simp
theorem right_c (p : Pk) (hb0 : -9223372036854775808 ≤ p.b) (w : World) : Calls Try.prog 11 #[p.v] w (Tells w (Is (.bool (rightP p)))) :=
  tells_is ((link_Right.calls 1 _ _ _ _ _ _ w (right_f 0 p hb0)).mono fun _ _ h => h)
theorem rright_c (p : Pk) (w : World) : Calls Try.prog 8 #[p.v] w (Tells w (Is (.bool (rightP p)))) :=
  tells_is ((strongroomref26_Right.calls 1 _ _ _ _ _ _ w (rright_f 0 p)).mono fun _ _ h => h)
theorem mine_c (p : Pk) (w : World) : Calls Try.prog 10 #[p.v] w (Tells w (Is p.v)) :=
  tells_is ((strongroomlaw26_mine.calls _ _ _ _ _ _ _ _ _ _ w rfl).mono fun _ _ h => h)
theorem theirs_c (p : Pk) (w : World) : Calls Try.prog 14 #[p.v] w (Tells w (Is p.v)) :=
  tells_is ((strongroomlaw26_theirs.calls _ _ _ _ _ _ _ _ _ _ w rfl).mono fun _ _ h => h)
/-- its bytes -/
def kindP (p : Pk) : Int := if p.r then 3 else if p.l then 2 else 1
def encP (p : Pk) : List Int := kindP p :: (putL p.n.toNat ++ (if p.r then putL p.b.toNat else textL p.d))
end Go.Proofs.Yteaefambkagpbaa.F

-- LnkD
namespace Go.Proofs.Yteaefambkagpbaa.F
open Go Go.RowKit Go.Proofs.YteaefambkagpbaaW.PrintWords Go.Proofs.YteaefambkagpbaaW.PrintLast Go.Proofs.YteaefambkagpbaaW.PrintMore Go.Proofs.YteaefambkagpbaaM Go.Proofs.YteaefambkagpbaaR
set_option linter.unusedSimpArgs false
set_option linter.unusedVariables false
theorem getT_put (a b : List Int) (s : ByteArray) (most : Int) (h : s.size < 18446744073709551616) (hm : (s.size : Int) ≤ max most 0) : getT (a ++ textL s ++ b) a.length most = (bytesOf s, ((a.length + (textL s).length : Nat) : Int), 0) := by
  have e : a ++ textL s ++ b = a ++ putL s.size ++ (bytesOf s ++ b) := by simp [textL]
  have e2 : a ++ textL s ++ b = (a ++ putL s.size) ++ bytesOf s ++ b := by simp [textL]
  have hl : (textL s).length = (putL s.size).length + s.size := by simp [textL, bytesOf_length]
  have hg := getL_put a (bytesOf s ++ b) s.size h
  rw [← e] at hg
  unfold getT
  simp only [hg]
  have hlen : (a ++ textL s ++ b).length = a.length + (putL s.size).length + s.size + b.length := by simp [hl]; omega
  rw [if_neg (by simp), if_neg (by omega), if_neg (by omega)]
  have e3 : (((a.length + (putL s.size).length : Nat) : Int) + (s.size : Int)).toNat = ((a ++ putL s.size) ++ bytesOf s).length := by simp [bytesOf_length]; omega
  have e4 : (((a.length + (putL s.size).length : Nat) : Int)).toNat = (a ++ putL s.size).length := by simp; omega
  rw [e3, e4, e2, List.take_left, List.drop_left]
  refine Prod.ext rfl (Prod.ext ?_ rfl)
  simp only
  omega
/-- a text that is read stands there -/
theorem getT_ok {l : List Int} {a most : Int} (hb : ∀ x ∈ l, 0 ≤ x ∧ x < 256) (h : (getT l a most).2.2 = 0) :
    ∃ (m : Nat) (s : ByteArray), a = m ∧ getT l a most = (bytesOf s, ((m + (textL s).length : Nat) : Int), 0) ∧ m + (textL s).length ≤ l.length ∧ (l.take (m + (textL s).length)).drop m = textL s ∧ (s.size : Int) ≤ max most 0 := by
  unfold getT at h ⊢
  simp only at h ⊢
  by_cases h1 : (getL l a).2.2 ≠ 0
  · rw [if_pos h1] at h; exact absurd h h1
  · rw [if_neg h1] at h ⊢
    obtain ⟨m, n, rfl, hn, hq, hle, hs⟩ := getL_ok hb (Decidable.not_not.1 h1)
    rw [hq] at h ⊢
    simp only at h ⊢
    split at h
    · simp at h
    · rename_i h2
      rw [if_neg h2]
      split at h
      · simp at h
      · rename_i h3
        rw [if_neg h3]
        generalize hK : m + (putL n).length = K at *
        have e1 : ((K : Int) + (n : Int)).toNat = K + n := by omega
        have e2 : ((K : Int)).toNat = K := by omega
        rw [e1, e2]
        have hlen : ((l.take (K + n)).drop K).length = n := by simp; omega
        have hbb : ∀ x ∈ (l.take (K + n)).drop K, 0 ≤ x ∧ x < 256 := fun x hx => hb x (List.mem_of_mem_take (List.mem_of_mem_drop hx))
        have hsz : (strOfNums ((l.take (K + n)).drop K)).size = n := by rw [str_size, hlen]
        have htl : (textL (strOfNums ((l.take (K + n)).drop K))).length = (putL n).length + n := by
          unfold textL; rw [hsz, List.length_append, bytesOf_length, hsz]
        refine ⟨m, strOfNums ((l.take (K + n)).drop K), rfl, ?_, ?_, ?_, ?_⟩
        · rw [bytesOf_str hbb, htl]
          refine Prod.ext rfl (Prod.ext ?_ rfl)
          simp only; omega
        · rw [htl]; omega
        · rw [htl, ← Nat.add_assoc, hK]
          unfold textL
          rw [hsz, bytesOf_str hbb, ← hs]
          have : l.take (K + n) = l.take K ++ (l.take (K + n)).drop K := by
            have := (List.take_append_drop K (l.take (K + n))).symm
            rw [List.take_take, Nat.min_eq_left (by omega)] at this
            exact this
          conv => lhs; rw [this]
          rw [List.drop_append_of_le_length (by simp; omega)]
        · rw [hsz]; omega
def recP (l : List Int) : Pk := ⟨true, (getL l 1).1, false, ⟨#[]⟩, (getL l (getL l 1).2.1).1⟩
def parP (l : List Int) : Pk := ⟨false, (getL l 1).1, decide (l.getD 0 0 = 2), strOfNums (getT l (getL l 1).2.1 200).1, 0⟩
/-- the packet of some bytes -/
def decP (l : List Int) : Option Pk :=
  if l.getD 0 0 < 1 ∨ 3 < l.getD 0 0 then none
  else if (getL l 1).2.2 ≠ 0 ∨ 1099511627776 < (getL l 1).1 then none
  else if l.getD 0 0 = 3 then
    if (getL l (getL l 1).2.1).2.2 ≠ 0 ∨ 65536 ≤ (getL l (getL l 1).2.1).1 then none
    else if (getL l (getL l 1).2.1).2.1 = l.length ∧ rightP (recP l) = true then some (recP l) else none
  else if (getT l (getL l 1).2.1 200).2.2 ≠ 0 then none
    else if (getT l (getL l 1).2.1 200).2.1 = l.length ∧ rightP (parP l) = true then some (parP l) else none
structure RightR (p : Pk) : Prop where
  n0 : 0 ≤ p.n
  n1 : p.n ≤ 1099511627776
  rcp : p.r = true → 0 ≤ p.b ∧ p.b < 65536 ∧ p.l = false ∧ p.d = ⟨#[]⟩
  par : p.r = false → p.d.size ≤ 200 ∧ p.b = 0
theorem size0 {d : ByteArray} (h : d.size = 0) : d = ⟨#[]⟩ := by
  cases d with | mk a => exact congrArg _ (Array.eq_empty_of_size_eq_zero h)
theorem rightR {p : Pk} (h : rightP p = true) : RightR p := by
  unfold rightP at h
  simp only [Bool.and_eq_true, decide_eq_true_eq] at h
  obtain ⟨⟨h0, h1⟩, h2⟩ := h
  refine ⟨h0, h1, fun hr => ?_, fun hr => ?_⟩
  · rw [hr] at h2
    simp only [if_true, Bool.and_eq_true, decide_eq_true_eq, Bool.not_eq_true'] at h2
    exact ⟨h2.1.1.1, h2.1.1.2.1, h2.1.2, size0 h2.2⟩
  · rw [hr] at h2
    simp only [Bool.false_eq_true, if_false, Bool.and_eq_true, decide_eq_true_eq] at h2
    exact ⟨h2.1.1, h2.2⟩
theorem kindP_head (p : Pk) : (encP p).getD 0 0 = kindP p := rfl
theorem strs_bytes (s : ByteArray) : strOfNums (bytesOf s) = s := str_bytesOf s
theorem dec_enc (p : Pk) (h : rightP p = true) : decP (encP p) = some p := by
  obtain ⟨h0, h1, h2, h3⟩ := rightR h
  have hk : kindP p = 1 ∨ kindP p = 2 ∨ kindP p = 3 := by unfold kindP; split; simp; split <;> simp
  have hg : getL (encP p) 1 = (p.n, ((1 + (putL p.n.toNat).length : Nat) : Int), 0) := by
    have := getL_put [kindP p] (if p.r then putL p.b.toNat else textL p.d) p.n.toNat (by omega)
    rw [show [kindP p] ++ putL p.n.toNat ++ (if p.r then putL p.b.toNat else textL p.d) = encP p from by unfold encP; simp] at this
    rw [show (([kindP p].length : Nat) : Int) = 1 from rfl] at this
    rw [this]
    refine Prod.ext ?_ (Prod.ext rfl rfl)
    simp only; omega
  unfold decP
  rw [kindP_head, if_neg (by omega), hg]
  simp only
  rw [if_neg (by omega)]
  cases hr : p.r with
  | true =>
    obtain ⟨b0, b1, hl, hd⟩ := h2 hr
    have hk3 : kindP p = 3 := by unfold kindP; rw [hr]; rfl
    have hg2 : getL (encP p) ((1 + (putL p.n.toNat).length : Nat) : Int) = (p.b, (((encP p).length : Nat) : Int), 0) := by
      have := getL_put (kindP p :: putL p.n.toNat) [] p.b.toNat (by omega)
      rw [show kindP p :: putL p.n.toNat ++ putL p.b.toNat ++ [] = encP p from by unfold encP; rw [hr]; simp] at this
      rw [show ((kindP p :: putL p.n.toNat).length : Nat) = 1 + (putL p.n.toNat).length from by simp; omega] at this
      rw [this]
      refine Prod.ext ?_ (Prod.ext ?_ rfl)
      · simp only; omega
      · simp only; unfold encP; rw [hr]; simp; omega
    have hrec : recP (encP p) = p := by
      unfold recP
      rw [hg]; simp only
      rw [hg2]; simp only
      obtain ⟨r, n, l, d, b⟩ := p
      simp only at hr hl hd
      rw [hr, hl, hd]
    rw [if_pos hk3, hg2]
    simp only
    rw [if_neg (by omega), hrec, if_pos ⟨trivial, h⟩]
  | false =>
    obtain ⟨b0, b1⟩ := h3 hr
    have hk3 : ¬ kindP p = 3 := by unfold kindP; rw [hr]; simp; split <;> simp
    have hg2 : getT (encP p) ((1 + (putL p.n.toNat).length : Nat) : Int) 200 = (bytesOf p.d, (((encP p).length : Nat) : Int), 0) := by
      have := getT_put (kindP p :: putL p.n.toNat) [] p.d 200 (by omega) (by omega)
      rw [show kindP p :: putL p.n.toNat ++ textL p.d ++ [] = encP p from by unfold encP; rw [hr]; simp] at this
      rw [show ((kindP p :: putL p.n.toNat).length : Nat) = 1 + (putL p.n.toNat).length from by simp; omega] at this
      rw [this]
      refine Prod.ext rfl (Prod.ext ?_ rfl)
      simp only; unfold encP; rw [hr]; simp; omega
    have hrec : parP (encP p) = p := by
      unfold parP
      rw [hg]; simp only
      rw [hg2, kindP_head]; simp only
      rw [strs_bytes]
      obtain ⟨r, n, l, d, b⟩ := p
      simp only at hr b1
      subst hr b1
      cases l <;> simp [kindP]
    rw [if_neg hk3, hg2]
    simp only
    rw [if_neg (by simp), hrec, if_pos ⟨trivial, h⟩]
theorem head_cons {l : List Int} (h : 1 ≤ l.getD 0 0) : l.take 1 = [l.getD 0 0] := by
  cases l with
  | nil => simp at h
  | cons x r => rfl
theorem take_split {l : List Int} {m K : Nat} (h : m ≤ K) : l.take K = l.take m ++ (l.take K).drop m := by
  have := (List.take_append_drop m (l.take K)).symm
  rw [List.take_take, Nat.min_eq_left h] at this
  exact this
theorem enc_dec {l : List Int} (hb : ∀ x ∈ l, 0 ≤ x ∧ x < 256) {p : Pk} (h : decP l = some p) : rightP p = true ∧ encP p = l := by
  unfold decP at h
  split at h
  · cases h
  · rename_i hk
    split at h
    · cases h
    · rename_i hn
      obtain ⟨m, n, hm, hn2, hq, hle, hs⟩ := getL_ok hb (a := 1) (by omega)
      obtain rfl : m = 1 := by omega
      have hh := head_cons (l := l) (by omega)
      have h1 : l.take (1 + (putL n).length) = l.getD 0 0 :: putL n := by
        rw [take_split (l := l) (m := 1) (K := 1 + (putL n).length) (by omega), hs, hh]; rfl
      split at h
      · rename_i hk3
        split at h
        · cases h
        · rename_i h2
          split at h
          · rename_i h3
            obtain ⟨h3, h4⟩ := h3
            obtain rfl := Option.some.inj h
            refine ⟨h4, ?_⟩
            rw [hq] at h2 h3
            simp only at h2 h3
            obtain ⟨m2, b, hm2, hb2, hq2, hle2, hs2⟩ := getL_ok hb (a := ((1 + (putL n).length : Nat) : Int)) (by omega)
            obtain rfl : m2 = 1 + (putL n).length := by omega
            rw [hq2] at h3
            simp only at h3
            have h5 : l = l.getD 0 0 :: putL n ++ putL b := by
              have e := take_split (l := l) (m := 1 + (putL n).length) (K := 1 + (putL n).length + (putL b).length) (by omega)
              rw [hs2, h1, List.take_of_length_le (by omega)] at e
              exact e
            unfold encP recP kindP
            rw [hq]; simp only
            rw [hq2]; simp only
            simp only [if_true]
            rw [show ((n : Int)).toNat = n from by omega, show ((b : Int)).toNat = b from by omega]
            rw [hk3] at h5
            exact h5.symm
          · cases h
      · rename_i hk3
        split at h
        · cases h
        · rename_i h2
          split at h
          · rename_i h3
            obtain ⟨h3, h4⟩ := h3
            obtain rfl := Option.some.inj h
            refine ⟨h4, ?_⟩
            rw [hq] at h2 h3
            simp only at h2 h3
            obtain ⟨m2, s, hm2, hq2, hle2, hs2, hsm⟩ := getT_ok hb (a := ((1 + (putL n).length : Nat) : Int)) (most := 200) (by omega)
            obtain rfl : m2 = 1 + (putL n).length := by omega
            rw [hq2] at h3
            simp only at h3
            have h5 : l = l.getD 0 0 :: putL n ++ textL s := by
              have e := take_split (l := l) (m := 1 + (putL n).length) (K := 1 + (putL n).length + (textL s).length) (by omega)
              rw [hs2, h1, List.take_of_length_le (by omega)] at e
              exact e
            unfold encP parP kindP
            rw [hq]; simp only
            rw [hq2]; simp only
            rw [strs_bytes, show ((n : Int)).toNat = n from by omega]
            simp only [Bool.false_eq_true, if_false]
            have hh2 : (if decide (l.getD 0 0 = 2) = true then (2 : Int) else 1) = l.getD 0 0 := by
              by_cases e2 : l.getD 0 0 = 2
              · rw [decide_eq_true e2, if_pos rfl, e2]
              · rw [decide_eq_false e2, if_neg (by simp)]; omega
            rw [hh2]
            exact h5.symm
          · cases h
end Go.Proofs.Yteaefambkagpbaa.F

-- Upd
namespace Go.Proofs.Yteaefambkagpbaa.F
open Go Go.RowKit Go.Proofs.YteaefambkagpbaaW.PrintWords Go.Proofs.YteaefambkagpbaaW.PrintLast Go.Proofs.YteaefambkagpbaaW.PrintMore Go.Proofs.YteaefambkagpbaaR
set_option linter.unusedSimpArgs false
set_option linter.unusedVariables false
/-- all but the blocks of S stays -/
structure Upd (S : Nat → Prop) (w w' : World) : Prop where
  os : w'.os = w.os
  tape : w'.tape = w.tape
  output : w'.output = w.output
  size : w.heap.size ≤ w'.heap.size
  block : ∀ k, k < w.heap.size → ¬ S k → w'.heap[k]? = w.heap[k]?
theorem Upd.refl (S : Nat → Prop) (w : World) : Upd S w w := ⟨rfl, rfl, rfl, Nat.le_refl _, fun _ _ _ => rfl⟩
theorem Upd.of_grew {S : Nat → Prop} {w w' : World} (h : Grew w w') : Upd S w w' := ⟨h.os, h.tape, h.output, h.size, fun k hk _ => h.block k hk⟩
theorem Upd.then_ {S S2 : Nat → Prop} {a b c : World} (h : Upd S a b) (k : Upd S2 b c) (hs : ∀ i, i < a.heap.size → S2 i → S i) : Upd S a c :=
  ⟨k.os.trans h.os, k.tape.trans h.tape, k.output.trans h.output, Nat.le_trans h.size k.size, fun i hi hn => (k.block i (Nat.lt_of_lt_of_le hi h.size) (fun h2 => hn (hs i hi h2))).trans (h.block i hi hn)⟩
theorem Upd.trans {S : Nat → Prop} {a b c : World} (h : Upd S a b) (k : Upd S b c) : Upd S a c := h.then_ k fun _ _ h => h
theorem Upd.mono {S S2 : Nat → Prop} {a b : World} (h : Upd S a b) (hs : ∀ i, i < a.heap.size → S i → S2 i) : Upd S2 a b :=
  ⟨h.os, h.tape, h.output, h.size, fun i hi hn => h.block i hi (fun h2 => hn (hs i hi h2))⟩
theorem Upd.grew {S : Nat → Prop} {a b : World} (h : Upd S a b) (hs : ∀ i, i < a.heap.size → ¬ S i) : Grew a b := ⟨h.os, h.tape, h.output, h.size, fun i hi => h.block i hi (hs i hi)⟩
theorem Upd.below {S : Nat → Prop} {a b : World} {B : Nat} (h : Upd S a b) (hB : B ≤ a.heap.size) (hs : ∀ i, S i → B ≤ i) : Below B a b :=
  ⟨h.os, h.tape, h.output, h.size, fun i hi => h.block i (Nat.lt_of_lt_of_le hi hB) (fun h2 => by have := hs i h2; omega)⟩
theorem Upd.set {S : Nat → Prop} {a b : World} (h : Upd S a b) {p : Addr} (hp : S p.block ∨ a.heap.size ≤ p.block) (u : Value) : Upd S a (b.setCell p u) :=
  ⟨h.os, h.tape, h.output, by simp [World.setCell]; exact h.size, fun i hi hn => by
    rw [Below.heap_setCell b p u i (fun e => by subst e; rcases hp with hp | hp; exact hn hp; omega)]
    exact h.block i hi hn⟩
theorem Upd.kept {S : Nat → Prop} {a b : World} (h : Upd S a b) : Kept a b S := ⟨h.size, fun i hi hn => h.block i hi hn⟩
theorem Upd.blk {S : Nat → Prop} {a b : World} {g : Nat} {o : Obj} (h : Upd S a b) (hb : a.heap[g]? = some o) (hn : ¬ S g) : b.heap[g]? = some o := (h.block g (blk_lt hb) hn).trans hb
theorem Upd.cell {S : Nat → Prop} {a b : World} {p : Addr} {v : Value} (h : Upd S a b) (hb : a.cell? p = some v) (hn : ¬ S p.block) : b.cell? p = some v := cell_kept hb h.kept hn
theorem Upd.grown {S : Nat → Prop} {a b c : World} {row : Option Nat} (h : Upd S a b) (hg : b.grownBy c row) (hr : ∀ k, row = some k → S k ∨ a.heap.size ≤ k) : Upd S a c :=
  ⟨hg.os.trans h.os, hg.tape.trans h.tape, hg.output.trans h.output, Nat.le_trans h.size hg.size, fun i hi hn => (hg.block i (Nat.lt_of_lt_of_le hi h.size) (fun e => by rcases hr i e.symm with h2 | h2; exact hn h2; omega)).trans (h.block i hi hn)⟩
theorem Upd.own {S : Nat → Prop} {w w1 : World} {base : Nat} {e : TypeId} {size n : Nat} {v : Value} {xs : List Value} (hu : Upd S w w1) (h : w.ownsRow base e size v n xs) (hn : ∀ k, v.ownBlock = some k → ¬ S k) : w1.ownsRow base e size v n xs :=
  own_move h fun k hk => hu.block k (own_lt h k hk) (hn k hk)
/-- what a call comes to: what it returns, and which blocks it may change -/
def Does (S : Nat → Prop) (w : World) (V : World → Value → Prop) (e : Ending) (w' : World) : Prop := ∃ v, e = .returned v ∧ V w' v ∧ Upd S w w'
theorem does_of_tells {S : Nat → Prop} {P : Program} {f : FuncId} {args : Array Value} {w : World} {V : World → Value → Prop} (h : Calls P f args w (Tells w V)) : Calls P f args w (Does S w V) :=
  h.mono fun _ _ ⟨v, he, hv, hg⟩ => ⟨v, he, hv, Upd.of_grew hg⟩
theorem tells_of_does {S : Nat → Prop} {P : Program} {f : FuncId} {args : Array Value} {w : World} {V : World → Value → Prop} (h : Calls P f args w (Does S w V)) (hs : ∀ i, i < w.heap.size → ¬ S i) : Calls P f args w (Tells w V) :=
  h.mono fun _ _ ⟨v, he, hv, hg⟩ => ⟨v, he, hv, hg.grew hs⟩
/-- a block known whole: its cells -/
def Blk (w : World) (g : Nat) (t : TypeId) (cs : List Value) : Prop := w.heap[g]? = some (.cells cs.toArray t (0, 0))
theorem Blk.lt {w : World} {g : Nat} {t : TypeId} {cs : List Value} (h : Blk w g t cs) : g < w.heap.size := blk_lt h
theorem Blk.at_ {w : World} {g : Nat} {t : TypeId} {cs : List Value} (h : Blk w g t cs) (i : Nat) : w.cell? ⟨g, i, none⟩ = cs[i]? := by
  rw [blk_cell h]; simp
theorem Blk.fz {w : World} {g : Nat} {t : TypeId} {cs : List Value} (h : Blk w g t cs) (i : Nat) : w.frozen? ⟨g, i, none⟩ = false := blk_frozen h i
theorem Blk.set {w : World} {g : Nat} {t : TypeId} {cs : List Value} (h : Blk w g t cs) (i : Nat) (u : Value) : Blk (w.setCell ⟨g, i, none⟩ u) g t (cs.set i u) := by
  have := blk_set h i u
  unfold Blk
  rw [this]; simp
theorem Blk.far {w : World} {g : Nat} {t : TypeId} {cs : List Value} (h : Blk w g t cs) {p : Addr} (hp : g ≠ p.block) (u : Value) : Blk (w.setCell p u) g t cs := blk_far h hp u
theorem Blk.upd {S : Nat → Prop} {w w' : World} {g : Nat} {t : TypeId} {cs : List Value} (h : Blk w g t cs) (hu : Upd S w w') (hn : ¬ S g) : Blk w' g t cs := hu.blk h hn
theorem Blk.grew {w w' : World} {g : Nat} {t : TypeId} {cs : List Value} (h : Blk w g t cs) (hu : Grew w w') : Blk w' g t cs := blk_below h hu
theorem Blk.new (w : World) (t : TypeId) (cs : List Value) : Blk (w.alloc (.cells cs.toArray t)) w.heap.size t cs := blk_new w _
/-- a block of numbers reads as a row -/
theorem Blk.own {w : World} {base g : Nat} {t : TypeId} {k : IntKind} {xs : List Int} {n : Nat} (h : Blk w g t (nums k xs)) (hb : base ≤ g) (hn : n ≤ xs.length) (hm : xs.length ≤ 9223372036854775807) : w.ownsRow base t 1 (.slice (some ⟨g, 0, none⟩) n xs.length) n (nums k (xs.take n)) := by
  refine ⟨by simp [nums, Nat.min_eq_left hn], .inr ⟨g, xs.length, (nums k xs).toArray, rfl, hb, h, hn, by simpa [maxLen] using hm, by simp [nums], ?_⟩⟩
  simp [nums, List.map_take]
theorem Blk.reads {w : World} {g : Nat} {t : TypeId} {k : IntKind} {xs : List Int} (h : Blk w g t (nums k xs)) (hm : xs.length ≤ 9223372036854775807) : ReadsInt w k (some ⟨g, 0, none⟩) xs.length xs :=
  ⟨rfl, hm, fun _ => ⟨_, rfl, fun i hi => by rw [add_plain, h.at_]; simp [nums, hi, List.getD_eq_getElem?_getD]⟩⟩
theorem Blk.C {w : World} {g : Nat} {t : TypeId} {k : IntKind} {xs : List Int} (h : Blk w g t (nums k xs)) (hm : xs.length ≤ 9223372036854775807) : Kd.C (Kd.int k) w (some ⟨g, 0, none⟩) xs.length xs := C_of (h.reads hm)
/-- what an append leaves: a row of one's own, in the block it had or in a new one -/
def Appended {α : Type} (enc : α → Value) (base : Nat) (e : TypeId) (v : Value) (xs : List α) (W : World) (v1 : Value) (w1 : World) : Prop :=
  w1.ownsRow base e 1 v1 xs.length (encs enc xs) ∧ W.grownBy w1 v.ownBlock ∧ (v1.ownBlock = v.ownBlock ∨ v1.ownBlock = some W.heap.size)
theorem app_row {P : Program} {α : Type} (enc : α → Value) (d : α) (h1 : ∀ x : α, (enc x).oneCell' = true) (W : World) (base : Nat) (t e ty : TypeId) (z : Value) (bytes : Nat)
    (ht : P.underlying t = some (.slice e)) (hinfo : (P.info? e).map (fun i => (i.zero, i.size, i.bytes)) = some (some z, 1, bytes)) (hz : z.cells.size = 1) (hb0 : 0 < bytes)
    (v : Value) (xs ys : List α) (A : Option Addr) (m c : Nat) (HO : W.ownsRow base e 1 v xs.length (encs enc xs)) (HR : ReadsOf enc d W A m ys) (hbase : base ≤ W.heap.size) (hl : (xs.length + m) * bytes ≤ 140737488355328) :
    ∃ v1 w1, (Builtin.append_ #[t, t] ty #[v, .slice A m c]).run P W = .ok v1 w1 ∧ Appended enc base e v (xs ++ ys) W v1 w1 := by
  obtain ⟨i0, hi, hzz⟩ := Option.map_eq_some_iff.1 hinfo
  simp only [Prod.mk.injEq] at hzz
  obtain ⟨hz0, hz1, hz2⟩ := hzz
  have hm : ys.length = m := HR.1
  have hlen : xs.length + m ≤ 140737488355328 := Nat.le_trans (Nat.le_mul_of_pos_right _ hb0) hl
  rcases Nat.eq_zero_or_pos m with h0 | hpos
  · subst h0
    obtain rfl : ys = [] := List.eq_nil_of_length_eq_zero hm
    refine ⟨v, W, ?_, by simpa using HO, World.grownBy.refl W _, .inl rfl⟩
    have hld : ∀ ad : Addr, (loadCells ad 0).run P W = .ok #[] W := fun ad => by simpa using run_loadCells_list (P := P) W ad [] (by simp)
    rcases HO.2 with ⟨rfl, hn⟩ | ⟨g, cap, cur, rfl, _, _, hnc, _⟩
    · cases A <;> simp [Builtin.append_, run_underlying ht, sizeOf, typeInfo, hi, Builtin.lenOf, Builtin.firstCells, hld]
    · cases A <;> simp [Builtin.append_, run_underlying ht, sizeOf, typeInfo, hi, Builtin.lenOf, Builtin.firstCells, hnc, storeCells, hld]
  · obtain ⟨ad, rfl, hc⟩ := HR.2.2 hpos
    have hcells : ∀ j u, (encs enc ys)[j]? = some u → W.cell? (ad.add j) = some u := by
      intro j u hu
      have hj : j < ys.length := by
        rcases Nat.lt_or_ge j ys.length with h | h
        · exact h
        · simp [encs, List.getElem?_eq_none h] at hu
      rw [encs_get (d := d) ys j hj] at hu
      rw [← hu]
      exact hc j (by omega)
    obtain ⟨v1, w1, hr, h2, h3, _, h5⟩ := run_append_own_at (P := P) W base t ty e i0 z 1 bytes ht hi hz0 hz1 hz2 hz (by omega) v xs.length (encs enc xs) HO ad m c (encs enc ys) (by simp [encs, hm]) hcells
      (by intro u hu; simp only [encs, List.mem_map] at hu; obtain ⟨q, _, rfl⟩ := hu; exact h1 q) (by simp only [maxLen]; omega) hl hbase
    exact ⟨v1, w1, hr, by simpa [encs, hm] using h2, h3, h5⟩
theorem app_num {P : Program} {k : IntKind} (W : World) (base : Nat) (t e ty : TypeId) (bytes : Nat)
    (ht : P.underlying t = some (.slice e)) (hinfo : (P.info? e).map (fun i => (i.zero, i.size, i.bytes)) = some (some (.int k 0), 1, bytes)) (hb0 : 0 < bytes)
    (v : Value) (xs ys : List Int) (A : Option Addr) (m c : Nat) (HO : W.ownsRow base e 1 v xs.length (nums k xs)) (HR : ReadsInt W k A m ys) (hbase : base ≤ W.heap.size) (hl : (xs.length + m) * bytes ≤ 140737488355328) :
    ∃ v1 w1, (Builtin.append_ #[t, t] ty #[v, .slice A m c]).run P W = .ok v1 w1 ∧ Appended (Value.int k) base e v (xs ++ ys) W v1 w1 :=
  app_row (Value.int k) 0 (fun _ => rfl) W base t e ty (.int k 0) bytes ht hinfo rfl hb0 v xs ys A m c HO HR hbase hl
theorem Appended.upd {α : Type} {enc : α → Value} {base : Nat} {e : TypeId} {v v1 : Value} {xs : List α} {W w1 : World} (h : Appended enc base e v xs W v1 w1) : Upd (fun k => v.ownBlock = some k) W w1 :=
  (Upd.refl _ W).grown h.2.1 fun k hk => .inl hk
/-- a row of one's own, cut short -/
theorem own_take {w : World} {base n m cap size : Nat} {e : TypeId} {A : Option Addr} {xs : List Value} (h : w.ownsRow base e size (.slice A n cap) n xs) (hm : m ≤ n) : w.ownsRow base e size (.slice A m cap) m (xs.take (m * size)) := by
  obtain ⟨hl, h⟩ := h
  refine ⟨by rw [List.length_take, hl]; exact Nat.min_eq_left (Nat.mul_le_mul_right _ hm), ?_⟩
  rcases h with ⟨hv, hn⟩ | ⟨g, cap', cur, hv, hb, hh, hnc, hcm, hcs, htake⟩
  · injection hv with h1 h2 h3
    subst h1 h3
    obtain rfl : m = 0 := by omega
    exact .inl ⟨rfl, rfl⟩
  · injection hv with h1 h2 h3
    subst h1 h3
    refine .inr ⟨g, cap, cur, rfl, hb, hh, by omega, hcm, hcs, ?_⟩
    rw [← htake, List.take_take, Nat.min_eq_left (Nat.mul_le_mul_right _ hm)]
/-- a slice of one element in a block of its own, which is not the row that is written -/
def One (e : TypeId) (x : Value) (vb : Value) : World → Value → Prop := fun w v => ∃ g1, v = .slice (some ⟨g1, 0, none⟩) 1 1 ∧ Blk w g1 e [x] ∧ some g1 ≠ vb.ownBlock
theorem One.stableB (e : TypeId) (x vb : Value) : ∀ w w' v, Grew w w' ∨ w.grownBy w' vb.ownBlock → One e x vb w v → One e x vb w' v :=
  fun _ _ _ hr ⟨g1, h1, h2, h3⟩ => ⟨g1, h1, hr.elim h2.grew (fun hg => blk_grown h2 hg h3), h3⟩
theorem One.stable (e : TypeId) (x vb : Value) : ∀ w w' v, Grew w w' → One e x vb w v → One e x vb w' v := fun w w' v hg => One.stableB e x vb w w' v (.inl hg)
theorem One.new {w : World} {e : TypeId} {x vb : Value} (h : ∀ k, vb.ownBlock = some k → k < w.heap.size) : One e x vb (w.alloc (.cells #[x] e)) (.slice (some ⟨w.heap.size, 0, none⟩) 1 1) :=
  ⟨_, rfl, Blk.new w e [x], fun he => by have := h _ he.symm; omega⟩
/-- the row behind an append -/
def AppV (base : Nat) (e : TypeId) (cs : List Value) (n : Nat) (vb : Value) (N : Nat) : World → Value → Prop := fun w v => w.ownsRow base e 1 v n cs ∧ (v.ownBlock = vb.ownBlock ∨ ∃ k, v.ownBlock = some k ∧ N ≤ k)
theorem Blk.reads_of {w : World} {g : Nat} {e : TypeId} {α : Type} {enc : α → Value} {d : α} {xs : List α} (h : Blk w g e (encs enc xs)) (hm : xs.length ≤ 9223372036854775807) : ReadsOf enc d w (some ⟨g, 0, none⟩) xs.length xs :=
  ⟨rfl, hm, fun _ => ⟨_, rfl, fun i hi => by rw [add_plain, h.at_]; exact encs_get xs i hi⟩⟩
theorem eval_tmp {a : Act} {t : Tmp} {v : Value} (h : a.tmps[t]?.getD undef = v) : a.eval (.tmp t) = v := by simpa [Act.eval] using h
/-- append as one operation, by the equation of its run -/
theorem wp_app {P : Program} {o : Oper} {a : Act} {w : World} {K : Act → World → Prop} {Q : Exit → Act → World → Prop} (s x : Operand) (t : TypeId)
    (ho : o.op = .call { callee := .builtin .append, args := #[s, x], argTypes := #[t, t] }) {v y : Value} (hs : a.eval s = v) (hx : a.eval x = y) {v1 : Value} {w1 : World}
    (hr : (Builtin.append_ #[t, t] o.type #[v, y]).run P w = .ok v1 w1) (h : K (a.put o.dst v1) w1) : Oper.wp P o a w K Q := by
  unfold Oper.wp execOp
  simp only [ho, resolve, invoke, builtin, Sem.run_bind, Sem.run_pure, Result.andThen_ok, List.map_toArray, List.map_cons, List.map_nil, hs, hx, hr]
  exact h
theorem wpList_app {P : Program} {ops : Array Oper} {rest : List Oper} {o : Oper} {a : Act} {w : World} {Q : Exit → Act → World → Prop} (hgd : o.guard = none) (s x : Operand) (t : TypeId)
    (ho : o.op = .call { callee := .builtin .append, args := #[s, x], argTypes := #[t, t] }) {v y : Value} (hs : a.eval s = v) (hx : a.eval x = y) {v1 : Value} {w1 : World}
    (hr : (Builtin.append_ #[t, t] o.type #[v, y]).run P w = .ok v1 w1) (h : wpList P ops Q rest (a.put o.dst v1) w1) : wpList P ops Q (o :: rest) a w :=
  wpList_plain hgd fun K hK => wp_app s x t ho hs hx hr (hK _ _ h)
theorem Upd.of_grown {w w' : World} {row : Option Nat} (h : w.grownBy w' row) : Upd (fun k => row = some k) w w' := (Upd.refl _ w).grown h fun k hk => .inl hk
theorem Upd.of_alloc_grown {w wn : World} {o : Obj} {row : Option Nat} (h : (w.alloc o).grownBy wn row) : Upd (fun k => row = some k) w wn :=
  (Upd.of_grew (Grew.alloc w o)).then_ (Upd.of_grown h) fun _ _ h => h
theorem add_block (a : Addr) (j : Nat) : (a.add j).block = a.block := by unfold Addr.add; split <;> rfl
/-- a row that is read stays, if what changes lies elsewhere -/
theorem C_upd {S : Nat → Prop} {w w' : World} {k : IntKind} {A : Option Addr} {n : Nat} {xs : List Int} (h : Kd.C (Kd.int k) w A n xs) (hu : Upd S w w') (hA : ∀ ad, A = some ad → ¬ S ad.block) : Kd.C (Kd.int k) w' A n xs := by
  obtain ⟨h1, h2, h3⟩ := reads_of h
  refine C_of ⟨h1, h2, fun hp => ?_⟩
  obtain ⟨ad, rfl, hc⟩ := h3 hp
  exact ⟨ad, rfl, fun j hj => hu.cell (hc j hj) (by rw [add_block]; exact hA ad rfl)⟩
end Go.Proofs.Yteaefambkagpbaa.F

-- F34
namespace Go.Proofs.Yteaefambkagpbaa.F
open Go.RowKit Go.Proofs.YteaefambkagpbaaW.PrintWords Go.Proofs.YteaefambkagpbaaW.PrintLast Go.Proofs.YteaefambkagpbaaW.PrintMore Go Go.Proofs.YteaefambkagpbaaR
attribute [local go_sem] max2_int min2_int max_two min_two max_three min_three max_four min_four   -- for this text's walks alone
set_option linter.unusedVariables false
set_option linter.unusedSimpArgs false

/-! ### strongroomref01_Text: function 34 -/
def strongroomref01_Text.f (k : Nat) (a0 : ByteArray) : Option (ByteArray) := (strongroomref01_Put.f k (IntKind.u64.wrap ((a0.size : Int)))).bind fun t167 => (if t167.size + a0.size ≤ 9223372036854775807 then (some (t167 ++ a0)) else (none))
theorem strongroomref01_Text.mono : ∀ a0 k, LeO (strongroomref01_Text.f k a0) (strongroomref01_Text.f (k + 1) a0) := by
  intro a0 k
  unfold strongroomref01_Text.f
  repeat' first
      | (with_reducible exact strongroomref01_Put.mono _ _)
      | (with_reducible exact LeO.refl _)
      | (with_reducible exact LeO.none _)
      | (with_reducible refine LeO.ite ?_ ?_)
      | (with_reducible refine LeO.bind ?_ (fun _ => ?_))
      | exact strongroomref01_Put.mono _ _
      | exact LeO.none _
      | refine LeO.ite ?_ ?_
      | refine LeO.bind ?_ (fun _ => ?_)
set_option maxHeartbeats 8000000 in
set_option maxRecDepth 100000 in
theorem strongroomref01_Text.calls (k : Nat) (a0 : ByteArray) (r : ByteArray) (w : World) (h : strongroomref01_Text.f k a0 = some r) :
    Calls Try.prog 34 #[.string a0] w fun e w' => e = .returned (.string r) ∧ Below w.heap.size w w' := by
  have HB := Aside0.mk (Below.refl w.heap.size w)
  have H : ((strongroomref01_Put.f k (IntKind.u64.wrap ((a0.size : Int)))).bind fun t167 => (if t167.size + a0.size ≤ 9223372036854775807 then (some (t167 ++ a0)) else (none))) = some r := h
  clear h
  replace H := Option.bind_eq_some_iff.mp H
  obtain ⟨t167, A20, H⟩ := H
  replace H : (if t167.size + a0.size ≤ 9223372036854775807 then (some (t167 ++ a0)) else (none)) = some r := H
  have A2 := Aside0.mk A20
  clear A20
  by_cases c3 : t167.size + a0.size ≤ 9223372036854775807
  · rw [if_pos c3] at H
    have c3b0 := eq_true c3
    have c3b1 : decide (t167.size + a0.size ≤ 9223372036854775807) = true := decide_eq_true c3
    try have c3b2 : (9223372036854775807 < t167.size + a0.size) = False := eq_false (Nat.not_lt.2 c3)
    obtain rfl := Option.some.inj H
    obtain ⟨z, hz⟩ : ∃ z : Int, IntKind.u64.wrap (a0.size : Int) = z := ⟨_, rfl⟩
    have hz2 : (a0.size : Int) % 18446744073709551616 = z := by rw [← hz]; simp [IntKind.wrap, IntKind.bits, IntKind.signed]
    have A3 : strongroomref01_Put.f k z = some t167 := by rw [← hz]; exact A2.out
    have HB2 := Lib.hid HB.out
    have c3b9 : ¬ (9223372036854775807 < t167.size + a0.size) := Nat.not_lt.2 c3
    clear A2 c3b0 c3b1 c3b2 HB c3
    go_enter Try.func34, Try.ntmps34
    go_wp2_with fail
    refine (strongroomref01_Put.calls k z t167 _ A3).mono ?_
    rintro e w4 ⟨rfl, hb⟩
    clear hz hz2
    go_wp2_with fail
    go_ret
    exact ⟨rfl, Grew.trans HB2.out hb⟩
  · rw [if_neg c3] at H
    exact absurd H (by simp)

end Go.Proofs.Yteaefambkagpbaa.F

-- LnkE
namespace Go.Proofs.Yteaefambkagpbaa.F
open Go Go.RowKit Go.Proofs.YteaefambkagpbaaW.PrintWords Go.Proofs.YteaefambkagpbaaW.PrintLast Go.Proofs.YteaefambkagpbaaW.PrintMore Go.Proofs.YteaefambkagpbaaM Go.Proofs.YteaefambkagpbaaR
attribute [local go_sem] max2_int min2_int max_two min_two
set_option linter.unusedSimpArgs false
set_option linter.unusedVariables false
set_option maxRecDepth 100000
theorem putT_f (k : Nat) (hk : 10 ≤ k) (l : List Int) (s : ByteArray) (hl : l.length ≤ 100000) (hs : s.size ≤ 100000) : num_PutText.f k l s = some (l ++ textL s) := by
  unfold num_PutText.f
  have := putL_ten (n := s.size) (by omega)
  rw [own_f l (by omega), obs, u64_wraps _ (by omega) (by omega), lay_f k s.size l hk (by omega) (by omega), obs, if_pos (by simp; omega)]
  simp [textL]
theorem encode_f (p : Pk) (h : rightP p = true) : link_Encode.f 11 p.r p.n p.l p.d p.b = some (encP p, 0) := by
  obtain ⟨h0, h1, h2, h3⟩ := rightR h
  have hpl := putL_ten (n := p.n.toNat) (by omega)
  have hpl1 := putL_pos p.n.toNat
  have key : ∀ K : Int, K = kindP p → link_Encode.j0 11 K p.r p.n p.l p.d p.b = some (encP p, 0) := by
    intro K hK
    obtain ⟨m, hm⟩ := Int.eq_ofNat_of_zero_le h0
    simp only [link_Encode.j0]
    have e1 : IntKind.u64.wrap p.n = ((p.n.toNat : Nat) : Int) := by rw [u64_wraps _ h0 (by omega)]; omega
    rw [e1, put_f 10 _ _ (by omega) (by omega) (by simp), obs]
    cases hr : p.r with
    | true =>
      obtain ⟨b0, b1, hl, hd⟩ := h2 hr
      rw [if_pos rfl]
      have e2 : IntKind.u64.wrap p.b = ((p.b.toNat : Nat) : Int) := by rw [u64_wraps _ b0 (by omega)]; omega
      rw [e2, put_f 10 _ _ (by omega) (by omega) (by simp; omega), obs]
      rw [hK]; unfold encP; rw [hr]; simp
    | false =>
      obtain ⟨b0, b1⟩ := h3 hr
      rw [if_neg (by simp), putT_f 10 (by omega) _ _ (by simp; omega) (by omega), obs]
      rw [hK]; unfold encP; rw [hr]; simp
  unfold link_Encode.f
  rw [right_f 10 p (by
    cases hr : p.r with
    | true => have := (h2 hr).1; omega
    | false => have := (h3 hr).2; omega), obs, h, if_pos rfl]
  cases hr : p.r with
  | true => rw [if_pos rfl]; have := key 3 (by unfold kindP; rw [hr]; rfl); rw [hr] at this; exact this
  | false =>
    rw [if_neg (by simp)]
    cases hl : p.l with
    | true => rw [if_pos rfl]; have := key 2 (by unfold kindP; rw [hr, hl]; rfl); rw [hr, hl] at this; exact this
    | false => rw [if_neg (by simp)]; have := key 1 (by unfold kindP; rw [hr, hl]; rfl); rw [hr, hl] at this; exact this
theorem encode_no (p : Pk) (hb0 : -9223372036854775808 ≤ p.b) (h : rightP p = false) : link_Encode.f 11 p.r p.n p.l p.d p.b = some ([], 1) := by
  unfold link_Encode.f
  rw [right_f 10 p hb0, obs, h, if_neg (by simp)]
def EncR (l : List Int) (e : Int) : World → Value → Prop := fun w v => ∃ A c, v = .tuple #[.slice A l.length c, .int .i64 e] ∧ l.length ≤ c ∧ Kd.C (Kd.int .u8) w A l.length l
def encRes (p : Pk) : List Int × Int := if rightP p then (encP p, 0) else ([], 1)
theorem encode_c (p : Pk) (hb0 : -9223372036854775808 ≤ p.b) (w : World) : Calls Try.prog 9 #[p.v] w (Tells w (EncR (encRes p).1 (encRes p).2)) := by
  have hf : link_Encode.f 11 p.r p.n p.l p.d p.b = some ((encRes p).1, (encRes p).2) := by
    unfold encRes
    cases h : rightP p with
    | true => rw [if_pos rfl]; exact encode_f p h
    | false => rw [if_neg (by simp)]; exact encode_no p hb0 h
  refine (link_Encode.calls 11 _ _ _ _ _ _ _ w hf).mono fun e w' ⟨v, he, hR, hb⟩ => ?_
  obtain ⟨A, c, rfl, hc, hC⟩ := Kd.R_reads hR
  exact ⟨_, he, ⟨A, c, rfl, hc, hC⟩, hb⟩
set_option maxHeartbeats 2000000 in
theorem rencode_c (p : Pk) (h : rightP p = true) (w : World) : Calls Try.prog 12 #[p.v] w (Tells w (Is (.string (strOfNums (encP p))))) := by
  obtain ⟨h0, h1, h2, h3⟩ := rightR h
  have hpl := putL_ten (n := p.n.toNat) (by omega)
  obtain ⟨r, n, l, d, b⟩ := p
  obtain ⟨n, rfl⟩ := Int.eq_ofNat_of_zero_le h0
  simp only at h1 h2 h3 hpl
  rw [show ((n : Int)).toNat = n from by omega] at hpl
  have e1 : IntKind.u64.wrap (n : Int) = (n : Int) := u64_wraps _ (by omega) (by omega)
  obtain ⟨N, hN⟩ : ∃ N, N = strOfNums (putL n) := ⟨_, rfl⟩
  have hNs : N.size ≤ 10 := by rw [hN, str_size]; exact hpl
  have H1 := Lib.hid (fun w => rput_c n w (by omega))
  rw [← hN] at H1
  cases r with
  | true =>
    obtain ⟨b0, b1, hl, hd⟩ := h2 rfl
    subst hl hd
    obtain ⟨b, rfl⟩ := Int.eq_ofNat_of_zero_le b0
    have hbl := putL_ten (n := b) (by omega)
    have e2 : IntKind.u64.wrap (b : Int) = (b : Int) := u64_wraps _ (by omega) (by omega)
    obtain ⟨B, hB⟩ : ∃ B, B = strOfNums (putL b) := ⟨_, rfl⟩
    have hBs : B.size ≤ 10 := by rw [hB, str_size]; exact hbl
    have H2 := Lib.hid (fun w => rput_c b w (by omega))
    rw [← hB] at H2
    obtain ⟨X, hX⟩ : ∃ X, X = (⟨#[3]⟩ : ByteArray) ++ N := ⟨_, rfl⟩
    have hXs : X.size = 1 + N.size := by rw [hX, ByteArray.size_append]; rfl
    have z1 : ¬ (9223372036854775807 < (⟨#[3]⟩ : ByteArray).size + N.size) := by show ¬ (_ < 1 + N.size); omega
    have z1' : ¬ (9223372036854775807 < 1 + N.size) := by omega
    have z2 : ¬ (9223372036854775807 < X.size + B.size) := by omega
    have hres : strOfNums (encP ⟨true, n, false, ⟨#[]⟩, b⟩) = X ++ B := by
      rw [hX, hN, hB, show (⟨#[3]⟩ : ByteArray) = strOfNums [3] from rfl, str_append, str_append]; rfl
    have hx' := hX.symm
    rw [hres]
    clear hres h2 h3 hB hN h1 hXs hNs hBs hpl hbl b0 b1 h0 h hX
    show Calls _ _ #[.agg #[.bool true, .int .i64 (n : Int), .bool false, .string ⟨#[]⟩, .int .i64 (b : Int)]] _ _
    go_enter Try.func12, Try.ntmps12
    go_wp2_with fail
    refine (H1.out _).mono ?_
    rintro e w1 ⟨_, rfl, rfl, hg1⟩
    have k0 := pw_cell_below hg1 (Blk.at_ (Blk.new w 23 [.bool true, .int .i64 (n : Int), .bool false, .string ⟨#[]⟩, .int .i64 (b : Int)]) 0)
    have k4 := pw_cell_below hg1 (Blk.at_ (Blk.new w 23 [.bool true, .int .i64 (n : Int), .bool false, .string ⟨#[]⟩, .int .i64 (b : Int)]) 4)
    go_wp2_with fail
    refine (H2.out _).mono ?_
    rintro e w2 ⟨_, rfl, rfl, hg2⟩
    go_wp2_with fail
    go_ret
    exact ⟨_, rfl, rfl, Grew.trans (Grew.trans (Grew.alloc _ _) hg1) hg2⟩
  | false =>
    obtain ⟨d0, hb⟩ := h3 rfl
    subst hb
    have hdl := putL_ten (n := d.size) (by omega)
    obtain ⟨B, hB⟩ : ∃ B, B = strOfNums (putL d.size) ++ d := ⟨_, rfl⟩
    have hBs : B.size ≤ 300 := by rw [hB, ByteArray.size_append, str_size]; omega
    have H2 := Lib.hid (fun w => rtext_c d w (by omega))
    rw [← hB] at H2
    have hB2 : B = strOfNums (textL d) := by rw [hB]; unfold textL; rw [← str_append, str_bytesOf]
    cases l with
    | true =>
      obtain ⟨X, hX⟩ : ∃ X, X = (⟨#[2]⟩ : ByteArray) ++ N := ⟨_, rfl⟩
      have hXs : X.size = 1 + N.size := by rw [hX, ByteArray.size_append]; rfl
      have z1' : ¬ (9223372036854775807 < 1 + N.size) := by omega
      have z1 : ¬ (9223372036854775807 < (⟨#[2]⟩ : ByteArray).size + N.size) := z1'
      have z2 : ¬ (9223372036854775807 < X.size + B.size) := by omega
      have hres : strOfNums (encP ⟨false, n, true, d, 0⟩) = X ++ B := by
        rw [hX, hN, hB2, show (⟨#[2]⟩ : ByteArray) = strOfNums [2] from rfl, str_append, str_append]; rfl
      have hx' := hX.symm
      rw [hres]
      clear hres h2 h3 hB hB2 hN h1 hXs hNs hBs hpl hdl d0 h0 h hX
      show Calls _ _ #[.agg #[.bool false, .int .i64 (n : Int), .bool true, .string d, .int .i64 0]] _ _
      go_enter Try.func12, Try.ntmps12
      go_wp2_with fail
      refine (H1.out _).mono ?_
      rintro e w1 ⟨_, rfl, rfl, hg1⟩
      have k0 := pw_cell_below hg1 (Blk.at_ (Blk.new w 23 [.bool false, .int .i64 (n : Int), .bool true, .string d, .int .i64 0]) 0)
      have k2 := pw_cell_below hg1 (Blk.at_ (Blk.new w 23 [.bool false, .int .i64 (n : Int), .bool true, .string d, .int .i64 0]) 2)
      have k3 := pw_cell_below hg1 (Blk.at_ (Blk.new w 23 [.bool false, .int .i64 (n : Int), .bool true, .string d, .int .i64 0]) 3)
      go_wp2_with fail
      refine (H2.out _).mono ?_
      rintro e w2 ⟨_, rfl, rfl, hg2⟩
      go_wp2_with fail
      go_ret
      exact ⟨_, rfl, rfl, Grew.trans (Grew.trans (Grew.alloc _ _) hg1) hg2⟩
    | false =>
      obtain ⟨X, hX⟩ : ∃ X, X = (⟨#[1]⟩ : ByteArray) ++ N := ⟨_, rfl⟩
      have hXs : X.size = 1 + N.size := by rw [hX, ByteArray.size_append]; rfl
      have z1' : ¬ (9223372036854775807 < 1 + N.size) := by omega
      have z1 : ¬ (9223372036854775807 < (⟨#[1]⟩ : ByteArray).size + N.size) := z1'
      have z2 : ¬ (9223372036854775807 < X.size + B.size) := by omega
      have hres : strOfNums (encP ⟨false, n, false, d, 0⟩) = X ++ B := by
        rw [hX, hN, hB2, show (⟨#[1]⟩ : ByteArray) = strOfNums [1] from rfl, str_append, str_append]; rfl
      have hx' := hX.symm
      rw [hres]
      clear hres h2 h3 hB hB2 hN h1 hXs hNs hBs hpl hdl d0 h0 h hX
      show Calls _ _ #[.agg #[.bool false, .int .i64 (n : Int), .bool false, .string d, .int .i64 0]] _ _
      go_enter Try.func12, Try.ntmps12
      go_wp2_with fail
      refine (H1.out _).mono ?_
      rintro e w1 ⟨_, rfl, rfl, hg1⟩
      have k0 := pw_cell_below hg1 (Blk.at_ (Blk.new w 23 [.bool false, .int .i64 (n : Int), .bool false, .string d, .int .i64 0]) 0)
      have k2 := pw_cell_below hg1 (Blk.at_ (Blk.new w 23 [.bool false, .int .i64 (n : Int), .bool false, .string d, .int .i64 0]) 2)
      have k3 := pw_cell_below hg1 (Blk.at_ (Blk.new w 23 [.bool false, .int .i64 (n : Int), .bool false, .string d, .int .i64 0]) 3)
      go_wp2_with fail
      refine (H2.out _).mono ?_
      rintro e w2 ⟨_, rfl, rfl, hg2⟩
      go_wp2_with fail
      go_ret
      exact ⟨_, rfl, rfl, Grew.trans (Grew.trans (Grew.alloc _ _) hg1) hg2⟩
end Go.Proofs.Yteaefambkagpbaa.F

-- Grp
namespace Go.Proofs.Yteaefambkagpbaa.F
open Go Go.RowKit Go.Proofs.YteaefambkagpbaaW.PrintWords Go.Proofs.YteaefambkagpbaaW.PrintLast Go.Proofs.YteaefambkagpbaaW.PrintMore Go.Proofs.YteaefambkagpbaaR
open Go.ChangeMaps Go.MapKept Go.ChangeShapes
open Go.WideElems (Fit rd rg pl rd_val elemAt)
open Go.Maps (Keyed)
set_option linter.unusedSimpArgs false
set_option linter.unusedVariables false
section
variable {H : Type} {P : Program} {k : TypeId} {w w' : World} {base : Nat} {e : TypeId} {q : IntKind} {b n : Nat} {D : DataW H}
theorem ints_move {v : Value} {zs : List Int} (h : w.ownsInts base e q v zs) (hm : ∀ g, v.ownBlock = some g → w'.heap[g]? = w.heap[g]?) : w'.ownsInts base e q v zs := ⟨own_move h.1 hm, h.2⟩
theorem own_cells {size n : Nat} {v : Value} {xs : List Value} (h : w.ownsRow base e size v n xs) {g : Nat} (hg : v.ownBlock = some g) : ∃ cur, w.heap[g]? = some (.cells cur e (0, 0)) := by
  rcases h.2 with ⟨rfl, _⟩ | ⟨g', cap, cur, rfl, _, hh, _⟩
  · simp [Value.ownBlock] at hg
  · have : g' = g := by simpa [Value.ownBlock] using hg
    subst this
    exact ⟨cur, hh⟩
theorem groups_move (h : w.ownsGroups P k base e q b n D) (hb' : w'.heap[b]? = w.heap[b]?)
    (hrow : ∀ g, base ≤ g → g < w.heap.size → (∃ cur, w.heap[g]? = some (.cells cur e (0, 0))) → (∀ es clock, w.heap[b]? = some (.map es clock) → ∃ x ∈ es.toList, x.val.ownBlock = some g) → w'.heap[g]? = w.heap[g]?) : w'.ownsGroups P k base e q b n D := by
  obtain ⟨es, clock, hb, F, hs, rfl, hbb, hlen, hap⟩ := h
  have hmv : ∀ x ∈ es.toList, ∀ zs, w.ownsInts base e q x.val zs → w'.ownsInts base e q x.val zs := fun x hx zs ho => ints_move ho fun g hg => hrow g (ho.1.lt g hg).1 (ho.1.lt g hg).2 (own_cells ho.1 hg) fun es' clock' hb2 => by
    obtain ⟨rfl, rfl⟩ : es = es' ∧ clock = clock' := by rw [hb] at hb2; simpa using hb2
    exact ⟨x, hx, hg⟩
  have hst : ∀ x ∈ es.toList, ∀ z, rowElem (H := H) w base e q x.val = some z → rowElem w' base e q x.val = some z := fun x hx z hz => by
    obtain ⟨zs, ho, rfl⟩ := rowElem_inv hz
    exact rowElem_mk (hmv x hx zs ho)
  obtain ⟨F1, hmap, _⟩ := F.stay hst
  refine ⟨es, clock, hb'.trans hb, F1, hs, by rw [hmap], hbb, fun x hx zs ho => ?_, hap⟩
  obtain ⟨y, hy⟩ := F.reads x hx
  obtain ⟨z, hz, _⟩ := rd_val hy
  obtain ⟨zs0, ho0, _⟩ := rowElem_inv hz
  rw [ho.unique (hmv x hx zs0 ho0)]
  exact hlen x hx zs0 ho0
theorem groups_upd {S : Nat → Prop} (h : w.ownsGroups P k base e q b n D) (hu : Upd S w w') (hb : ¬ S b) (hS : ∀ g, base ≤ g → ¬ S g) : w'.ownsGroups P k base e q b n D := by
  have hlt : b < w.heap.size := by
    obtain ⟨es, clock, hb, _⟩ := h
    exact (Array.getElem?_eq_some_iff.1 hb).1
  exact groups_move h (hu.block b hlt hb) fun g hg hg2 _ _ => hu.block g hg2 (hS g hg)
theorem groups_lt (h : w.ownsGroups P k base e q b n D) : b < w.heap.size ∧ b < base := by
  obtain ⟨es, clock, hb, _, _, _, hbb, _⟩ := h
  exact ⟨(Array.getElem?_eq_some_iff.1 hb).1, hbb⟩
/-- a look-up, in whatever world that has this map -/
theorem groups_at {t E : TypeId} {key : Value} {kl : Lit} (h : w.ownsGroups P k base e q b n D) (K : Keyed P k) (ht : P.underlying t = some (.map k E)) (hz : ∀ w, (zeroValue E).run P w = .ok (.slice none 0 0) w) (hn : n < maxLen) (hkey : keyOf P k key = some kl) :
    ∃ v zs, (∀ wx : World, wx.heap[b]? = w.heap[b]? → (Instr.lookup t (.map (some b)) key false).run P wx = .ok v wx) ∧ D.atKey kl .nil = rowDatum q v zs ∧ w.ownsInts base e q v zs ∧ zs.length ≤ n ∧ w.groupBack P t k base e q b n D key kl v ∧ (∀ No : Nat → Prop, w.Shuns b No → ∀ g, v.ownBlock = some g → ¬ No g) := by
  obtain ⟨es, clock, hb, F, hs, rfl, hbb, hlen, hap⟩ := h
  rcases Maps.fit_look false K ht (hz w) hb F hkey with ⟨hrun, hno, hat⟩ | ⟨e0, y, hm0, h3, hrun, hR, hat, _⟩
  · refine ⟨.slice none 0 0, [], fun wx hx => ?_, hat _, World.ownsInts_nil _ _ _ _, Nat.zero_le _, groups_back K ht hb F hs hn hbb hlen hap hkey (fun x _ _ => ?_) (by simp [Value.ownBlock]), fun _ _ g hg => by cases hg⟩
    · rcases Maps.fit_look false K ht (hz wx) (hx.trans hb) F hkey with ⟨hr, _, _⟩ | ⟨e0, y, hm0, h3, _⟩
      · exact hr
      · exact absurd h3 (hno e0 hm0)
    · cases x.val.ownBlock <;> simp [Value.ownBlock]
  · obtain ⟨zs, ho, rfl⟩ := rowElem_inv hR
    refine ⟨e0.val, zs, fun wx hx => ?_, hat _, ho, hlen e0 hm0 zs ho, groups_back K ht hb F hs hn hbb hlen hap hkey (fun x hx hne => hap x hx e0 hm0 (by rw [h3]; exact hne)) (fun e1 => ?_), fun No hsh g hg => hsh es clock hb e0 hm0 g hg⟩
    · rcases Maps.fit_look false K ht (hz wx) (hx.trans hb) F hkey with ⟨hr, hno, _⟩ | ⟨e1, y, hm1, h4, hr, _⟩
      · exact absurd h3 (hno e0 hm0)
      · have := entry_eq_of_key ((stamped_iff _ _).1 F.stamped).2.2 hm1 hm0 (h4.trans h3.symm)
        rw [this] at hr
        exact hr
    · have := (ho.1.lt b e1).1
      omega
/-- behind a store by the way back, the groups still shun what they shunned -/
theorem back_shuns {t E : TypeId} {key : Value} {kl : Lit} {w0 w1 w2 : World} {v v' : Value} {zs : List Int} {No : Nat → Prop} (K : Keyed P k) (ht : P.underlying t = some (.map k E)) (hkey : keyOf P k key = some kl) (hown0 : w0.ownsGroups P k base e q b n D) (hn : n < maxLen) (hu : w0.ownsInts base e q v zs) (hsh : w0.Shuns b No) (hno : ∀ g, v'.ownBlock = some g → ¬ No g)
    (hgr : w0.grownBy w1 v.ownBlock) (hrun : (Instr.mapUpdate t (.map (some b)) key v').run P w1 = .ok () w2) : w2.Shuns b No := by
  obtain ⟨es, clock, hb, F, hs, _, hbb, _⟩ := hown0
  have hblt : b < w0.heap.size := (Array.getElem?_eq_some_iff.1 hb).1
  have hb1 : w1.heap[b]? = some (.map es clock) := (hgr.block b hblt (fun e1 => by have := (hu.1.lt b e1.symm).1; omega)).trans hb
  obtain ⟨es', clock', hb2, hwho⟩ := stored_who K ht hb1 F (Nat.lt_of_le_of_lt hs hn) hkey hrun
  intro es2 clock2 hb2' y hy g hyg
  obtain ⟨rfl, rfl⟩ : es' = es2 ∧ clock' = clock2 := by rw [hb2] at hb2'; simpa using hb2'
  rcases hwho y hy with ⟨hy0, _⟩ | ⟨_, hval⟩
  · exact hsh es clock hb y hy0 g hyg
  · exact hno g (hval ▸ hyg)
theorem shuns_move {No : Nat → Prop} (h : w.Shuns b No) (hb : w'.heap[b]? = w.heap[b]?) : w'.Shuns b No := fun es clock hb' => h es clock (hb.symm.trans hb')
theorem row_cell {w : World} {k : IntKind} {A : Option Addr} {l : List Int} (h : Kd.C (Kd.int k) w A l.length l) (i : Nat) (hi : i < l.length) : ∃ ad, A = some ad ∧ w.cell? (ad.add i) = some (.int k (l.getD i 0)) := by
  obtain ⟨ad, hA, hc⟩ := (reads_of h).at_ (i : Int) (by omega) (by omega)
  exact ⟨ad, hA, by simpa [Go.Proofs.YteaefambkagpbaaW.PrintWords.rd] using hc⟩
theorem late_upd {W wx : World} {row : Option Nat} (h : Grew W wx ∨ ∃ w1, Grew W w1 ∧ w1.grownBy wx row) : Upd (fun k => row = some k) W wx := by
  rcases h with h | ⟨w1, h1, h2⟩
  · exact Upd.of_grew h
  · exact (Upd.of_grew h1).grown h2 fun k hk => .inl hk
theorem Upd.grownBy_none {a b : World} (h : Upd (fun _ => False) a b) (row : Option Nat) : a.grownBy b row := ⟨h.os, h.tape, h.output, h.size, fun i hi _ => h.block i hi (fun h => h)⟩
/-- a slice of one element of some cells in a block of its own, which is not the row that is written -/
def OneC (e : TypeId) (cs : List Value) (vb : Value) : World → Value → Prop := fun w v => ∃ g1, v = .slice (some ⟨g1, 0, none⟩) 1 1 ∧ Blk w g1 e cs ∧ some g1 ≠ vb.ownBlock
theorem OneC.stableB (e : TypeId) (cs : List Value) (vb : Value) : ∀ w w' v, Grew w w' ∨ w.grownBy w' vb.ownBlock → OneC e cs vb w v → OneC e cs vb w' v :=
  fun _ _ _ hr ⟨g1, h1, h2, h3⟩ => ⟨g1, h1, hr.elim h2.grew (fun hg => blk_grown h2 hg h3), h3⟩
theorem OneC.stable (e : TypeId) (cs : List Value) (vb : Value) : ∀ w w' v, Grew w w' → OneC e cs vb w v → OneC e cs vb w' v := fun w w' v hg => OneC.stableB e cs vb w w' v (.inl hg)
theorem OneC.new {w : World} {e : TypeId} {cs : List Value} {vb : Value} (h : ∀ k, vb.ownBlock = some k → k < w.heap.size) : OneC e cs vb (w.alloc (.cells cs.toArray e)) (.slice (some ⟨w.heap.size, 0, none⟩) 1 1) :=
  ⟨_, rfl, Blk.new w e cs, fun he => by have := h _ he.symm; omega⟩
/-- the row behind an append -/
def AppS (base : Nat) (e : TypeId) (size : Nat) (cs : List Value) (n : Nat) (vb : Value) (N : Nat) : World → Value → Prop := fun w v => w.ownsRow base e size v n cs ∧ (v.ownBlock = vb.ownBlock ∨ ∃ k, v.ownBlock = some k ∧ N ≤ k)
/-- one element, of some cells in a block of its own, behind a row of one's own -/
theorem app_cells {P : Program} (W : World) (base : Nat) (t e ty : TypeId) (z : Value) (size bytes : Nat) (ht : P.underlying t = some (.slice e)) (hinfo : (P.info? e).map (fun i => (i.zero, i.size, i.bytes)) = some (some z, size, bytes)) (hz : z.cells.size = size) (hs0 : 0 < size) (hb0 : 0 < bytes)
    (v : Value) (n : Nat) (xs : List Value) (g1 : Nat) (cs : List Value) (hcs : cs.length = size) (h1 : ∀ u ∈ cs, u.oneCell' = true) (HO : W.ownsRow base e size v n xs) (HB : Blk W g1 e cs) (hbase : base ≤ W.heap.size) (hl : (n + 1) * bytes ≤ 140737488355328) :
    ∃ v1 w1, (Builtin.append_ #[t, t] ty #[v, .slice (some ⟨g1, 0, none⟩) 1 1]).run P W = .ok v1 w1 ∧ w1.ownsRow base e size v1 (n + 1) (xs ++ cs) ∧ W.grownBy w1 v.ownBlock ∧ (v1.ownBlock = v.ownBlock ∨ ∃ k, v1.ownBlock = some k ∧ W.heap.size ≤ k) := by
  obtain ⟨i0, hi, hzz⟩ := Option.map_eq_some_iff.1 hinfo
  simp only [Prod.mk.injEq] at hzz
  obtain ⟨hz0, hz1, hz2⟩ := hzz
  have hlen : n + 1 ≤ 140737488355328 := Nat.le_trans (Nat.le_mul_of_pos_right _ hb0) hl
  obtain ⟨v1, w1, hr, h2, h3, _, h5⟩ := run_append_own_at (P := P) W base t ty e i0 z size bytes ht hi hz0 hz1 hz2 hz hs0 v n xs HO ⟨g1, 0, none⟩ 1 1 cs (by rw [hcs]; simp)
    (fun j u hu => by rw [add_plain, HB.at_]; simpa using hu) h1 (by simp only [maxLen]; omega) hl hbase
  exact ⟨v1, w1, hr, h2, h3, h5.imp id fun h => ⟨_, h, Nat.le_refl _⟩⟩
/-- a string behind a row of bytes of one's own -/
theorem app_str {P : Program} (W : World) (base : Nat) (t u ty e : TypeId) (ht : P.underlying t = some (.slice e)) (hu : P.underlying u = some .string) (hinfo : (P.info? e).map (fun i => (i.zero, i.size, i.bytes)) = some (some (.int .u8 0), 1, 1))
    (v : Value) (xs : List Int) (y : ByteArray) (HO : W.ownsRow base e 1 v xs.length (nums .u8 xs)) (hbase : base ≤ W.heap.size) (hl : xs.length + y.size ≤ 140737488355328) :
    ∃ v1 w1, (Builtin.append_ #[t, u] ty #[v, .string y]).run P W = .ok v1 w1 ∧ w1.ownsRow base e 1 v1 (xs ++ bytesOf y).length (nums .u8 (xs ++ bytesOf y)) ∧ W.grownBy w1 v.ownBlock := by
  obtain ⟨i0, hi, hzz⟩ := Option.map_eq_some_iff.1 hinfo
  simp only [Prod.mk.injEq] at hzz
  obtain ⟨hz0, hz1, hz2⟩ := hzz
  obtain ⟨v1, w1, hr, h2, h3, _⟩ := Lib.run_append_own_string (P := P) (w := W) base t u ty e i0 ht hu hi hz0 hz1 hz2 v xs.length (nums .u8 xs) HO y (by simp only [maxLen]; omega) hl hbase
  refine ⟨v1, w1, hr, ?_, h3⟩
  have hl2 : (xs ++ bytesOf y).length = xs.length + y.size := by rw [List.length_append, bytesOf_length]
  have hc : nums .u8 (xs ++ bytesOf y) = nums .u8 xs ++ Lib.strCells y := by
    rw [nums_append]
    congr 1
    simp [nums, bytesOf, Lib.strCells]
  rw [hl2, hc]
  exact h2
/-- any append by the equation of its run -/
theorem wpList_app2 {P : Program} {ops : Array Oper} {rest : List Oper} {o : Oper} {a : Act} {w : World} {Q : Exit → Act → World → Prop} (hgd : o.guard = none) (s x : Operand) (t u : TypeId)
    (ho : o.op = .call { callee := .builtin .append, args := #[s, x], argTypes := #[t, u] }) {v y : Value} (hs : a.eval s = v) (hx : a.eval x = y) {v1 : Value} {w1 : World}
    (hr : (Builtin.append_ #[t, u] o.type #[v, y]).run P w = .ok v1 w1) (h : wpList P ops Q rest (a.put o.dst v1) w1) : wpList P ops Q (o :: rest) a w :=
  wpList_plain hgd fun K hK => by
    unfold Oper.wp execOp
    simp only [ho, resolve, invoke, builtin, Sem.run_bind, Sem.run_pure, Result.andThen_ok, List.map_toArray, List.map_cons, List.map_nil, hs, hx, hr]
    exact hK _ _ h
/-- a row of one's own with nothing in it, and room -/
theorem make_own {P : Program} (W : World) (base : Nat) (t e : TypeId) (z : Value) (size bytes : Nat) (ht : P.underlying t = some (.slice e)) (hinfo : (P.info? e).map (fun i => (i.zero, i.size, i.bytes)) = some (some z, size, bytes)) (c : Nat) (hb : bytes * c ≤ 281474976710656) (hc : c ≤ 9223372036854775807) (hbase : base ≤ W.heap.size) :
    ∃ w', (Instr.makeSlice t (.int .i64 0) (.int .i64 (c : Int))).run P W = .ok (.slice (some ⟨W.heap.size, 0, none⟩) 0 c) w' ∧ w'.ownsRow base e size (.slice (some ⟨W.heap.size, 0, none⟩) 0 c) 0 [] ∧ Grew W w' := by
  obtain ⟨i0, hi, hzz⟩ := Option.map_eq_some_iff.1 hinfo
  simp only [Prod.mk.injEq] at hzz
  obtain ⟨hz0, hz1, hz2⟩ := hzz
  obtain ⟨w', h1, h2, h3⟩ := run_make_own (P := P) (w := W) base t e i0 z size ht hi hz0 hz1 .i64 .i64 c (by rw [hz2]; exact hb) (by unfold maxLen; exact hc) hbase
  exact ⟨w', h1, h2, (Upd.of_grown h3).grew fun i _ h => by cases h⟩
/-- a whole row behind one's own -/
theorem app_many {P : Program} (W : World) (base : Nat) (t e ty : TypeId) (z : Value) (size bytes : Nat) (ht : P.underlying t = some (.slice e)) (hinfo : (P.info? e).map (fun i => (i.zero, i.size, i.bytes)) = some (some z, size, bytes)) (hz : z.cells.size = size) (hs0 : 0 < size) (hb0 : 0 < bytes)
    (v : Value) (n : Nat) (xs : List Value) (A : Option Addr) (m c : Nat) (news : List Value) (hcs : news.length = m * size) (h1 : ∀ u ∈ news, u.oneCell' = true) (hc : 0 < m → ∃ ad, A = some ad ∧ ∀ j u, news[j]? = some u → W.cell? (ad.add j) = some u)
    (HO : W.ownsRow base e size v n xs) (hbase : base ≤ W.heap.size) (hl : (n + m) * bytes ≤ 140737488355328) :
    ∃ v1 w1, (Builtin.append_ #[t, t] ty #[v, .slice A m c]).run P W = .ok v1 w1 ∧ w1.ownsRow base e size v1 (n + m) (xs ++ news) ∧ W.grownBy w1 v.ownBlock ∧ (v1.ownBlock = v.ownBlock ∨ ∃ k, v1.ownBlock = some k ∧ W.heap.size ≤ k) := by
  obtain ⟨i0, hi, hzz⟩ := Option.map_eq_some_iff.1 hinfo
  simp only [Prod.mk.injEq] at hzz
  obtain ⟨hz0, hz1, hz2⟩ := hzz
  have hlen : n + m ≤ 140737488355328 := Nat.le_trans (Nat.le_mul_of_pos_right _ hb0) hl
  rcases Nat.eq_zero_or_pos m with h0 | hpos
  · subst h0
    obtain rfl : news = [] := List.eq_nil_of_length_eq_zero (by simpa using hcs)
    refine ⟨v, W, ?_, by simpa using HO, World.grownBy.refl W _, .inl rfl⟩
    have hld : ∀ ad : Addr, (loadCells ad 0).run P W = .ok #[] W := fun ad => by simpa using run_loadCells_list (P := P) W ad [] (by simp)
    rcases HO.2 with ⟨rfl, hn⟩ | ⟨g, cap, cur, rfl, _, _, hnc, _⟩
    · cases A <;> simp [Builtin.append_, run_underlying ht, sizeOf, typeInfo, hi, Builtin.lenOf, Builtin.firstCells, hld]
    · cases A <;> simp [Builtin.append_, run_underlying ht, sizeOf, typeInfo, hi, Builtin.lenOf, Builtin.firstCells, hnc, storeCells, hld]
  · obtain ⟨ad, rfl, hcells⟩ := hc hpos
    obtain ⟨v1, w1, hr, h2, h3, _, h5⟩ := run_append_own_at (P := P) W base t ty e i0 z size bytes ht hi hz0 hz1 hz2 hz hs0 v n xs HO ad m c news hcs hcells h1 (by simp only [maxLen]; omega) hl hbase
    exact ⟨v1, w1, hr, h2, h3, h5.imp id fun h => ⟨_, h, Nat.le_refl _⟩⟩
/-- a store into a map by the equation of its run -/
theorem wpList_mapUpdate_run {P : Program} {w w2 : World} {ops : Array Oper} {rest : List Oper} {o : Oper} {a : Act} {Q : Exit → Act → World → Prop}
    (hg : o.guard = none) (m x v : Operand) (t : TypeId) (hop : o.op = Op.mapUpdate t m x v) {vm vx vv : Value} (hm : a.eval m = vm) (hx : a.eval x = vx) (hv : a.eval v = vv)
    (hrun : (Instr.mapUpdate t vm vx vv).run P w = .ok () w2) (hK : wpList P ops Q rest (a.put o.dst undef) w2) : wpList P ops Q (o :: rest) a w := by
  refine wpList_plain hg fun K' hK' => ?_
  unfold Oper.wp
  simp [execOp, hop, hm, hx, hv, hrun, Result.andThen]
  exact hK' _ _ hK
end
end Go.Proofs.Yteaefambkagpbaa.F

-- Arr
namespace Go.Proofs.Yteaefambkagpbaa.F
open Go Go.RowKit Go.Proofs.YteaefambkagpbaaW.PrintWords Go.Proofs.YteaefambkagpbaaW.PrintLast Go.Proofs.YteaefambkagpbaaW.PrintMore Go.Proofs.YteaefambkagpbaaR
set_option linter.unusedSimpArgs false
set_option linter.unusedVariables false
theorem Blk.setRow {w : World} {g : Nat} {t : TypeId} {cs : List Value} (h : Blk w g t cs) (c : List Value) : Blk (w.setRow g c.toArray) g t c := setRow_heap w g _ _ t (0, 0) h
theorem Blk.farRow {w : World} {g k : Nat} {t : TypeId} {cs : List Value} (h : Blk w g t cs) (hne : g ≠ k) (c : Array Value) : Blk (w.setRow k c) g t cs := (setRow_other w k g c hne).trans h
theorem Upd.setRow {S : Nat → Prop} {a b : World} {g : Nat} (h : Upd S a b) (hp : S g ∨ a.heap.size ≤ g) (c : Array Value) : Upd S a (b.setRow g c) :=
  ⟨h.os, h.tape, h.output, by rw [setRow_size]; exact h.size, fun k hk hn => by
    rw [setRow_other _ _ _ _ (fun e => by subst e; rcases hp with hp | hp; exact hn hp; omega)]; exact h.block k hk hn⟩
theorem Grew.setRow {a b : World} {g : Nat} (h : Grew a b) (hp : a.heap.size ≤ g) (c : Array Value) : Grew a (b.setRow g c) :=
  ⟨h.os, h.tape, h.output, by rw [setRow_size]; exact h.size, fun k hk => by rw [setRow_other _ _ _ _ (by omega)]; exact h.block k hk⟩
theorem wpList_load_blk {P : Program} {ops : Array Oper} {rest : List Oper} {o : Oper} {a : Act} {w : World} {Q : Exit → Act → World → Prop} {cs : List Value} {t : TypeId} {g : Nat} (hg : Blk w g t cs) (hgd : o.guard = none) (ty : TypeId) (x : Operand) (ho : o.op = .load ty x)
    (hx : a.eval x = .pointer (some ⟨g, 0, none⟩)) (d : TypeDesc)
    (hu : P.underlying ty = some d) (hd : d.isRow = true) (hi : (P.info? ty).map (·.size) = some cs.length)
    (h : wpList P ops Q rest (a.put o.dst (.agg cs.toArray)) w) : wpList P ops Q (o :: rest) a w :=
  wpList_load_row hgd ty x ho g hx t cs.toArray (0, 0) d hg hu (by cases d <;> simp_all) (by simpa using hi) h
theorem wpList_store_blk {P : Program} {ops : Array Oper} {rest : List Oper} {o : Oper} {a : Act} {w : World} {Q : Exit → Act → World → Prop} {cs c : List Value} {t : TypeId} {g : Nat} (hg : Blk w g t cs) (hgd : o.guard = none) (ty : TypeId) (x y : Operand) (ho : o.op = .store ty x y)
    (hx : a.eval x = .pointer (some ⟨g, 0, none⟩)) (hy : a.eval y = .agg c.toArray) (hi : (P.info? ty).map (·.size) = some c.length)
    (hl : cs.length = c.length) (h1 : c.toArray.all (·.oneCell') = true)
    (h : wpList P ops Q rest (a.put o.dst undef) (w.setRow g c.toArray)) : wpList P ops Q (o :: rest) a w :=
  wpList_store_row hgd ty x y ho g c.toArray hx hy t cs.toArray hg (by simpa using hi) (by simpa using hl) h1 h
theorem results_blk {P : Program} {fn : Func} {p : Tmp} {ty : TypeId} (h : fn.results = #[.cell p ty]) (tmps : Array Value) {w : World} {g : Nat} {t : TypeId} {cs : List Value} (hg : Blk w g t cs) (d : TypeDesc)
    (hp : tmps.getD p undef = .pointer (some ⟨g, 0, none⟩))
    (hu : P.underlying ty = some d) (hd : d.isRow = true) (hi : (P.info? ty).map (·.size) = some cs.length) :
    (results fn tmps).run P w = .ok (.agg cs.toArray) w :=
  results_cell_row h tmps w g t cs.toArray (0, 0) d hp hg hu (by cases d <;> simp_all) (by simpa using hi)
theorem run_index_arr {P : Program} (w : World) (t e : TypeId) (n : Nat) (cs : List Value) (k : IntKind) (i : Nat) (v : Value) (h : P.underlying t = some (.array n e)) (hs : ∀ w', Sem.run P (sizeOf e) w' = .ok 1 w') (ha : ∀ w', Sem.run P (isAgg e) w' = .ok false w') (hi : i < n) (hv : cs[i]? = some v) :
    (Instr.index t (.agg cs.toArray) (.int k (i : Int))).run P w = .ok v w := by
  have hn : (0 : Int) ≤ (i : Int) ∧ (i : Int) < (n : Int) := by omega
  simp [Instr.index, run_underlying h, asIntOf, hn, hv, hi, hs, ha, go_sem]
end Go.Proofs.Yteaefambkagpbaa.F

-- LnkF
namespace Go.Proofs.Yteaefambkagpbaa.F
open Go Go.RowKit Go.Proofs.YteaefambkagpbaaW.PrintWords Go.Proofs.YteaefambkagpbaaW.PrintLast Go.Proofs.YteaefambkagpbaaW.PrintMore Go.Proofs.YteaefambkagpbaaM Go.Proofs.YteaefambkagpbaaR
attribute [local go_sem] max2_int min2_int max_two min_two
set_option linter.unusedSimpArgs false
set_option linter.unusedVariables false
set_option maxRecDepth 100000
def zeroPk : Pk := ⟨false, 0, false, ⟨#[]⟩, 0⟩
def pkR (p : Pk) (e : Int) : Value := .tuple #[p.v, .int .i64 e]
def zcells : List Value := [.bool false, .int .i64 0, .bool false, .string ⟨#[]⟩, .int .i64 0]
theorem pkc_one (a : Bool) (b : Int) (c : Bool) (d : ByteArray) (e : Int) : [Value.bool a, .int .i64 b, .bool c, .string d, .int .i64 e].toArray.all (·.oneCell') = true := by simp [Value.oneCell']
/-- a new block -/
def NewB (t : TypeId) (cs : List Value) (N : Nat) : World → Value → Prop := fun w v => ∃ g, v = .pointer (some ⟨g, 0, none⟩) ∧ N ≤ g ∧ Blk w g t cs
theorem NewB.stable (t : TypeId) (cs : List Value) (N : Nat) : ∀ w w' v, Grew w w' → NewB t cs N w v → NewB t cs N w' v := fun _ _ _ hg ⟨g, h1, h2, h3⟩ => ⟨g, h1, h2, h3.grew hg⟩
def decRes (l : List Int) : Value := match decP l with | some p => pkR p 0 | none => pkR zeroPk 4
set_option maxHeartbeats 4000000 in
theorem decode_c (A : Option Addr) (c : Nat) (l : List Int) (w : World) (hr : Kd.C (Kd.int .u8) w A l.length l) (hc : l.length ≤ c) (hl : l.length ≤ 140737488351232) (hb : ∀ x ∈ l, 0 ≤ x ∧ x < 256) :
    Calls Try.prog 13 #[.slice A l.length c] w (Tells w (Is (decRes l))) := by
  have HG1 := Lib.hid (fun w' (hg : Grew w w') => get_c A c l 1 w' (Kd.C_below hr hg) hc hl hb)
  have HG2 := Lib.hid (fun w' (hg : Grew w w') (a : Int) => get_c A c l a w' (Kd.C_below hr hg) hc hl hb)
  have HT := Lib.hid (fun w' (hg : Grew w w') (a : Int) => getT_c A c l a 200 w' (Kd.C_below hr hg) hc hl hb (by omega) (by omega))
  have HROW := Lib.hid (fun (h0 : 0 < l.length) => row_cell hr 0 h0)
  obtain ⟨n, hn⟩ : ∃ n, n = l.length := ⟨_, rfl⟩
  rw [← hn] at HG1 HG2 HT HROW hc ⊢
  obtain ⟨R, hR⟩ : ∃ R, R = decRes l := ⟨_, rfl⟩
  rw [← hR]
  have HRes := Lib.hid hR
  obtain ⟨x, hx⟩ : ∃ x, x = l.getD 0 0 := ⟨_, rfl⟩
  have hxb : 0 ≤ x ∧ x < 256 := by
    rw [hx]
    cases l with
    | nil => simp
    | cons y r => exact hb y (by simp)
  have HX := Lib.hid hx
  have HN := Lib.hid hn
  have HBB := Lib.hid hb
  obtain ⟨hx0, hx1⟩ := hxb
  have hbl := Blk.new w 30 zcells
  have hgw : Grew w (w.alloc (.cells zcells.toArray 30)) := Grew.alloc _ _
  have HBL := Lib.hid (fun w' (h : Grew (w.alloc (.cells zcells.toArray 30)) w') => (hbl.grew h))
  have HGW := Lib.hid hgw
  clear hr hb hn hR hx hbl hgw
  by_cases h0 : n = 0
  · subst h0
    have hres : R = pkR zeroPk 4 := by
      rw [HRes.out]; unfold decRes decP
      have : l = [] := List.eq_nil_of_length_eq_zero HN.out.symm
      rw [this]; simp
    have HR2 := Lib.hid hres
    clear HG1 HG2 HT HROW hres
    go_enter Try.func13, Try.ntmps13
    go_wp2_with fail
    exact bodyPost_ret (v := pkR zeroPk 4) (by simp [results, Try.results13, go_sem, pkR, zeroPk, Pk.v]) rfl ⟨_, rfl, HR2.out.symm, HGW.out⟩
  · obtain ⟨ad, rfl, k0⟩ := HROW.out (by omega)
    have ea : ad.add 0 = ad := by obtain ⟨b, o, i⟩ := ad; simp [Addr.add]
    rw [ea, ← HX.out] at k0
    have e0 : ((n : Int) == 0) = false := by simpa using h0
    have i0 : 0 < n := by omega
    have i0' : (0 : Int) < (n : Int) := by omega
    have k0' := pw_cell_below HGW.out k0
    have HK := Lib.hid (fun w' (h : Grew (w.alloc (.cells zcells.toArray 30)) w') => pw_cell_below h k0')
    have k0' : (w.alloc (.cells #[.bool false, .int .i64 0, .bool false, .string ⟨#[]⟩, .int .i64 0] 30)).cell? ad = some (.int .u8 x) := k0'
    clear HROW k0 ea h0
    by_cases h1 : x < 1 ∨ 3 < x
    · have hres : R = pkR zeroPk 4 := by
        rw [HRes.out]; unfold decRes decP
        rw [← HX.out, if_pos h1]
      have HR2 := Lib.hid hres
      clear HG1 HG2 HT hres
      by_cases h2 : x < 1
      · have d1 : decide (x < 1) = true := decide_eq_true h2
        clear h1 h2
        go_enter Try.func13, Try.ntmps13
        go_wp2_with fail
        exact bodyPost_ret (v := pkR zeroPk 4) (by simp [results, Try.results13, go_sem, pkR, zeroPk, Pk.v]) rfl ⟨_, rfl, HR2.out.symm, HGW.out⟩
      · have d1 : decide (x < 1) = false := decide_eq_false h2
        have d2 : decide (3 < x) = true := decide_eq_true (by omega)
        clear h1 h2
        go_enter Try.func13, Try.ntmps13
        go_wp2_with fail
        exact bodyPost_ret (v := pkR zeroPk 4) (by simp [results, Try.results13, go_sem, pkR, zeroPk, Pk.v]) rfl ⟨_, rfl, HR2.out.symm, HGW.out⟩
    · have d1 : decide (x < 1) = false := decide_eq_false (by omega)
      have d2 : decide (3 < x) = false := decide_eq_false (by omega)
      have hok := fun h => getL_ok (a := 1) HBB.out h
      obtain ⟨q, k1, er, hq⟩ : ∃ q k1 er, getL l 1 = (q, k1, er) := ⟨_, _, _, rfl⟩
      rw [hq] at HG1
      have HQ := Lib.hid hq
      by_cases h2 : er ≠ 0 ∨ 1099511627776 < q
      · have hres : R = pkR zeroPk 4 := by
          rw [HRes.out]; unfold decRes decP
          rw [← HX.out, if_neg h1, hq, if_pos h2]
        have HR2 := Lib.hid hres
        clear HG2 HT hres hok hq
        by_cases h3 : er = 0
        · subst h3
          have d3 : decide (1099511627776 < q) = true := decide_eq_true (by omega)
          clear h2 h1
          go_enter Try.func13, Try.ntmps13
          go_wp2_with fail
          refine (HG1.out _ HGW.out).mono ?_
          rintro e w1 ⟨_, rfl, rfl, hg1⟩
          go_wp2_with (first | refine wpList_store_blk (c := zcells) (HBL.out w1 hg1) (by rfl) 30 (.tmp 2) (.tmp 42) (by rfl) (by rfl) (by rfl) (by kernel_rfl) rfl (by kernel_rfl) ?_)
          exact bodyPost_ret (results_ct rfl _ _ w.heap.size 30 zcells.toArray (0, 0) _ rfl ((HBL.out w1 hg1).setRow zcells) Try.underlying30 (by rfl) (by rfl)) rfl ⟨_, rfl, by rw [HR2.out]; rfl, Grew.setRow (Grew.trans HGW.out hg1) (Nat.le_refl _) _⟩
        · have d3 : (er != 0) = true := by simpa using h3
          clear h2 h1 h3
          go_enter Try.func13, Try.ntmps13
          go_wp2_with fail
          refine (HG1.out _ HGW.out).mono ?_
          rintro e w1 ⟨_, rfl, rfl, hg1⟩
          go_wp2_with (first | refine wpList_store_blk (c := zcells) (HBL.out w1 hg1) (by rfl) 30 (.tmp 2) (.tmp 42) (by rfl) (by rfl) (by rfl) (by kernel_rfl) rfl (by kernel_rfl) ?_)
          exact bodyPost_ret (results_ct rfl _ _ w.heap.size 30 zcells.toArray (0, 0) _ rfl ((HBL.out w1 hg1).setRow zcells) Try.underlying30 (by rfl) (by rfl)) rfl ⟨_, rfl, by rw [HR2.out]; rfl, Grew.setRow (Grew.trans HGW.out hg1) (Nat.le_refl _) _⟩
      · obtain rfl : er = 0 := by omega
        obtain ⟨m, q', hm, hq2, hqe, hle, -⟩ := hok (by rw [hq])
        rw [hq] at hqe
        simp only [Prod.mk.injEq] at hqe
        obtain ⟨rfl, hk1, -⟩ := hqe
        obtain rfl : m = 1 := by omega
        obtain ⟨k, hk⟩ : ∃ k, k = 1 + (putL q').length := ⟨_, rfl⟩
        rw [← hk] at hk1 hle
        subst hk1
        have d3 : decide (1099511627776 < (q' : Int)) = false := decide_eq_false (by omega)
        have d3' : decide (1099511627776 < q') = false := decide_eq_false (by omega)
        have qb : q' ≤ 1099511627776 := by omega
        have qb' : (q' : Int) ≤ 1099511627776 := by omega
        clear hq hok hm hq2 hk hle
        by_cases h3 : x = 3
        · subst h3
          have x3 : ((3 : Int) == 3) = true := rfl
          have x2 : ((3 : Int) == 2) = false := rfl
          clear HT
          have hok2 := fun h => getL_ok (a := (k : Int)) HBB.out h
          obtain ⟨b, k2, er, hq2⟩ : ∃ b k2 er, getL l k = (b, k2, er) := ⟨_, _, _, rfl⟩
          have HG3 := Lib.hid (fun w' hg => HG2.out w' hg (k : Int))
          rw [hq2] at HG3
          have HQ2 := Lib.hid hq2
          have HOK2 := Lib.hid hok2
          clear HG2 hok2 hq2
          go_enter Try.func13, Try.ntmps13
          go_wp2_with fail
          refine (HG1.out _ HGW.out).mono ?_
          rintro e w1 ⟨_, rfl, rfl, hg1⟩
          go_wp2_with fail
          have k1 := HK.out w1 hg1
          have hw0 : IntKind.i64.wrap (q' : Int) = (q' : Int) := IntWalk.i64_in _ (by omega)
          apply region_grew [Is _, Is _, Is _, Is _, Is _, Is _, Is _, Is _, Is _, Is _, Is _, NewB 30 zcells w1.heap.size] [([(0, none)], none), ([(43, some 0)], none), ([(44, some 1)], none), ([(45, some 2)], none), ([(0, none)], none), ([(47, some 4)], none), ([(48, some 5)], none), ([(49, some 6)], none), ([(4, none)], none), ([(51, some 8)], none), ([(46, some 3), (50, some 7), (52, some 9)], none), ([], none)] [(7, 11), (43, 0), (44, 1), (45, 2), (46, 3), (47, 4), (48, 5), (49, 6), (50, 7), (51, 8), (52, 9), (53, 10)] rfl (by kernel_rfl) (by kernel_rfl) (show Stable Grew _ from ⟨Is.stable _, Is.stable _, Is.stable _, Is.stable _, Is.stable _, Is.stable _, Is.stable _, Is.stable _, Is.stable _, Is.stable _, Is.stable _, NewB.stable _ _ _, trivial⟩)
          · show OpsHold _ _ _ _ _ _ _ _ _
            refine ⟨fun a_ wx hR hD K hK => ?_, ?_⟩
            · have hG : Grew w1 wx := (Grew.drew _).trans hR
              simp [Deps, Dep, at_, Is] at hD
              go_simp
              exact hK _ _ (Grew.refl _) rfl
            refine ⟨fun a_ wx hR hD K hK => ?_, ?_⟩
            · have hG : Grew w1 wx := (Grew.drew _).trans hR
              simp [Deps, Dep, at_, Is] at hD
              go_simp
              exact hK _ _ (Grew.refl _) rfl
            refine ⟨fun a_ wx hR hD K hK => ?_, ?_⟩
            · have hG : Grew w1 wx := (Grew.drew _).trans hR
              simp [Deps, Dep, at_, Is] at hD
              have e_ := pw_cell_below hG k1
              go_simp
              exact hK _ _ (Grew.refl _) rfl
            refine ⟨fun a_ wx hR hD K hK => ?_, ?_⟩
            · have hG : Grew w1 wx := (Grew.drew _).trans hR
              simp [Deps, Dep, at_, Is] at hD
              go_simp
              exact hK _ _ (Grew.refl _) rfl
            refine ⟨fun a_ wx hR hD K hK => ?_, ?_⟩
            · have hG : Grew w1 wx := (Grew.drew _).trans hR
              simp [Deps, Dep, at_, Is] at hD
              go_simp
              exact hK _ _ (Grew.refl _) rfl
            refine ⟨fun a_ wx hR hD K hK => ?_, ?_⟩
            · have hG : Grew w1 wx := (Grew.drew _).trans hR
              simp [Deps, Dep, at_, Is] at hD
              go_simp
              exact hK _ _ (Grew.refl _) rfl
            refine ⟨fun a_ wx hR hD K hK => ?_, ?_⟩
            · have hG : Grew w1 wx := (Grew.drew _).trans hR
              simp [Deps, Dep, at_, Is] at hD
              have e_ := pw_cell_below hG k1
              go_simp
              exact hK _ _ (Grew.refl _) rfl
            refine ⟨fun a_ wx hR hD K hK => ?_, ?_⟩
            · have hG : Grew w1 wx := (Grew.drew _).trans hR
              simp [Deps, Dep, at_, Is] at hD
              go_simp
              exact hK _ _ (Grew.refl _) rfl
            refine ⟨fun a_ wx hR hD K hK => ?_, ?_⟩
            · have hG : Grew w1 wx := (Grew.drew _).trans hR
              simp [Deps, Dep, at_, Is] at hD
              go_simp
              exact hK _ _ (Grew.refl _) rfl
            refine ⟨fun a_ wx hR hD K hK => ?_, ?_⟩
            · have hG : Grew w1 wx := (Grew.drew _).trans hR
              simp [Deps, Dep, at_, Is] at hD
              go_simp
              exact hK _ _ (Grew.refl _) rfl
            refine ⟨fun a_ wx hR hD K hK => ?_, ?_⟩
            · have hG : Grew w1 wx := (Grew.drew _).trans hR
              simp [Deps, Dep, at_, Is] at hD
              obtain ⟨hd0, hd1, hd2⟩ := hD
              go_simp
              exact hK _ _ (Grew.refl _) rfl
            refine ⟨fun a_ wx hR hD K hK => ?_, ?_⟩
            · have hG : Grew w1 wx := (Grew.drew _).trans hR
              go_simp
              exact hK _ _ (Grew.alloc _ _) ⟨_, rfl, by simpa using hG.size, Blk.new _ _ _⟩
            trivial
          · show EndHold _ _ _ _ _ _ _
            intro v7
            refine end_all (xs := [_, _, _, _, _, _, _, _, _, _, _]) ⟨rfl, rfl, rfl, rfl, rfl, rfl, rfl, rfl, rfl, rfl, rfl, trivial⟩ ?_
            rintro w2 hR1 ⟨-, hNew⟩
            refine ⟨?_⟩
            have hG_w2 : Grew w1 w2 := (Grew.drew _).trans hR1
            clear hR1
            simp only [Act.put, List.setIfInBounds_toArray, List.set_cons_succ, List.set_cons_zero, dropN, putEach]
            obtain ⟨g7, rfl, hg7, hb7⟩ := hNew
            have hgz : w.heap.size < g7 := by have := hg1.size; simp at this; omega
            clear k1 hw0 k0'
            have hb7b := hb7.setRow [.bool true, .int .i64 (q' : Int), .bool false, .string ⟨#[]⟩, .int .i64 0]
            have hg7w : Grew w (w2.setRow g7 ([.bool true, .int .i64 (q' : Int), .bool false, .string ⟨#[]⟩, .int .i64 0] : List Value).toArray) := Grew.setRow (Grew.trans (Grew.trans HGW.out hg1) hG_w2) (by omega) _
            have hg7z : Grew (w.alloc (.cells zcells.toArray 30)) (w2.setRow g7 ([.bool true, .int .i64 (q' : Int), .bool false, .string ⟨#[]⟩, .int .i64 0] : List Value).toArray) := Grew.setRow (Grew.trans hg1 hG_w2) (by simp; omega) _
            have HNE := Lib.hid (show w.heap.size ≠ g7 from by omega)
            have HG7 := Lib.hid hg7w
            have HZ7 := Lib.hid hg7z
            have HB7 := Lib.hid hb7b
            have HL7 := Lib.hid (show w.heap.size ≤ g7 from by omega)
            have q0 : (w2.setRow g7 #[.bool true, .int .i64 (q' : Int), .bool false, .string ⟨#[]⟩, .int .i64 0]).cell? ⟨g7, 0, none⟩ = some (.bool true) := hb7b.at_ 0
            clear hb7b hg7w hg7z hg7 hgz
            have HB0 := Lib.hid hb7
            clear hb7
            go_wp2_with (first | refine wpList_store_blk (c := [.bool true, .int .i64 (q' : Int), .bool false, .string ⟨#[]⟩, .int .i64 0]) HB0.out (by rfl) 30 (.tmp 7) (.tmp 53) (by rfl) (by rfl) (by rfl) (by kernel_rfl) rfl (pkc_one _ _ _ _ _) ?_)
            clear q0
            refine (HG3.out _ HG7.out).mono ?_
            rintro e w3 ⟨_, rfl, rfl, hg3⟩
            have hz3 := HBL.out w3 (Grew.trans HZ7.out hg3)
            have hb3 := HB7.out.grew hg3
            have hdec : decP l = if er ≠ 0 ∨ 65536 ≤ b then none else if k2 = l.length ∧ rightP ⟨true, (q' : Int), false, ⟨#[]⟩, b⟩ = true then some ⟨true, (q' : Int), false, ⟨#[]⟩, b⟩ else none := by
              unfold decP recP
              rw [← HX.out, if_neg h1, HQ.out, if_neg (by omega), if_pos rfl]
              simp only
              rw [HQ2.out]
            by_cases h4 : er ≠ 0 ∨ 65536 ≤ b
            · rw [if_pos h4] at hdec
              have hres : R = pkR zeroPk 4 := by rw [HRes.out]; unfold decRes; rw [hdec]
              have HR2 := Lib.hid hres
              clear hres hdec
              by_cases h5 : er = 0
              · subst h5
                have d4 : decide (65536 ≤ b) = true := decide_eq_true (by omega)
                clear h4
                go_wp2_with (first | refine wpList_store_blk (c := zcells) hz3 (by rfl) 30 (.tmp 2) (.tmp 69) (by rfl) (by rfl) (by rfl) (by kernel_rfl) rfl (by kernel_rfl) ?_)
                exact bodyPost_ret (results_ct rfl _ _ w.heap.size 30 zcells.toArray (0, 0) _ rfl (hz3.setRow zcells) Try.underlying30 (by rfl) (by rfl)) rfl ⟨_, rfl, by rw [HR2.out]; rfl, Grew.setRow (Grew.trans HG7.out hg3) (Nat.le_refl _) _⟩
              · have d4 : (er != 0) = true := by simpa using h5
                clear h4 h5
                go_wp2_with (first | refine wpList_store_blk (c := zcells) hz3 (by rfl) 30 (.tmp 2) (.tmp 69) (by rfl) (by rfl) (by rfl) (by kernel_rfl) rfl (by kernel_rfl) ?_)
                exact bodyPost_ret (results_ct rfl _ _ w.heap.size 30 zcells.toArray (0, 0) _ rfl (hz3.setRow zcells) Try.underlying30 (by rfl) (by rfl)) rfl ⟨_, rfl, by rw [HR2.out]; rfl, Grew.setRow (Grew.trans HG7.out hg3) (Nat.le_refl _) _⟩
            · rw [if_neg h4] at hdec
              obtain rfl : er = 0 := by omega
              have HDEC := Lib.hid hdec
              obtain ⟨m2, b', hm2, hb2, hqe2, hle2, -⟩ := HOK2.out (by rw [HQ2.out])
              rw [HQ2.out] at hqe2
              simp only [Prod.mk.injEq] at hqe2
              obtain ⟨rfl, -, -⟩ := hqe2
              have d4 : decide (65536 ≤ (b' : Int)) = false := decide_eq_false (by omega)
              have d4' : decide (65536 ≤ b') = false := decide_eq_false (by omega)
              have b1 : b' ≤ 65536 := by omega
              clear hdec hle2 hb2 hm2
              have q0 := hb3.at_ 0
              have q1 := hb3.at_ 1
              have q2 := hb3.at_ 2
              have q3 := hb3.at_ 3
              have q4 := hb3.at_ 4
              simp only [List.getElem?_cons_zero, List.getElem?_cons_succ] at q0 q1 q2 q3 q4
              have ff := hb3.fz 4
              have hb6 : Blk (w3.setCell ⟨g7, 4, none⟩ (.int .i64 (b' : Int))) g7 30 [.bool true, .int .i64 (q' : Int), .bool false, .string ⟨#[]⟩, .int .i64 (b' : Int)] := hb3.set 4 _
              have hz6 := hz3.far (p := ⟨g7, 4, none⟩) HNE.out (.int .i64 (b' : Int))
              have hg6 : Grew w (w3.setCell ⟨g7, 4, none⟩ (.int .i64 (b' : Int))) := by
                have := Grew.trans HG7.out hg3
                exact ⟨this.os, this.tape, this.output, by simpa [World.setCell] using this.size, fun k hk => by rw [Below.heap_setCell w3 _ _ k (by have := HL7.out; simp; omega)]; exact this.block k hk⟩
              have HB6 := Lib.hid hb6
              have HZ6 := Lib.hid hz6
              have HG6 := Lib.hid hg6
              clear hb6 hz6 hg6 hz3 hb3 h4
              by_cases h5 : k2 = (n : Int) ∧ rightP (⟨true, (q' : Int), false, ⟨#[]⟩, (b' : Int)⟩) = true
              · obtain ⟨h5a, h5b⟩ := h5
                have HRT := Lib.hid (right_c (⟨true, (q' : Int), false, ⟨#[]⟩, (b' : Int)⟩) (by show -9223372036854775808 ≤ (b' : Int); omega))
                rw [h5b] at HRT
                have hres : R = pkR (⟨true, (q' : Int), false, ⟨#[]⟩, (b' : Int)⟩) 0 := by
                  rw [HRes.out]; unfold decRes
                  rw [HDEC.out, if_pos ⟨by rw [← HN.out]; exact h5a, h5b⟩]
                have HR2 := Lib.hid hres
                clear hres h5b
                subst h5a
                have nn : ((n : Int) != (n : Int)) = false := by simp
                go_wp2_with fail
                refine (HRT.out _).mono ?_
                rintro e w4 ⟨_, rfl, rfl, hg4⟩
                have hb4 := HB6.out.grew hg4
                have hz4 := HZ6.out.grew hg4
                go_wp2_with (first | refine wpList_load_blk hb4 (by rfl) 30 (.tmp 7) (by rfl) (by rfl) _ Try.underlying30 (by rfl) (by kernel_rfl) ?_ | refine wpList_store_blk (c := [.bool true, .int .i64 (q' : Int), .bool false, .string ⟨#[]⟩, .int .i64 (b' : Int)]) hz4 (by rfl) 30 (.tmp 2) (.tmp 97) (by rfl) (by rfl) (by rfl) (by kernel_rfl) rfl (pkc_one _ _ _ _ _) ?_)
                exact bodyPost_ret (results_ct rfl _ _ w.heap.size 30 ([.bool true, .int .i64 (q' : Int), .bool false, .string ⟨#[]⟩, .int .i64 (b' : Int)] : List Value).toArray (0, 0) _ rfl (hz4.setRow ([.bool true, .int .i64 (q' : Int), .bool false, .string ⟨#[]⟩, .int .i64 (b' : Int)] : List Value)) Try.underlying30 (by rfl) (by rfl)) rfl ⟨_, rfl, by rw [HR2.out]; rfl, Grew.setRow (Grew.trans HG6.out hg4) (Nat.le_refl _) _⟩
              · have hres : R = pkR zeroPk 4 := by
                  rw [HRes.out]; unfold decRes
                  rw [HDEC.out, if_neg (by rw [← HN.out]; exact h5)]
                have HR2 := Lib.hid hres
                clear hres
                by_cases h6 : k2 = (n : Int)
                · have h5b : rightP (⟨true, (q' : Int), false, ⟨#[]⟩, (b' : Int)⟩) = false := by
                    cases hh : rightP (⟨true, (q' : Int), false, ⟨#[]⟩, (b' : Int)⟩) with
                    | false => rfl
                    | true => exact absurd ⟨h6, hh⟩ h5
                  have HRT := Lib.hid (right_c (⟨true, (q' : Int), false, ⟨#[]⟩, (b' : Int)⟩) (by show -9223372036854775808 ≤ (b' : Int); omega))
                  rw [h5b] at HRT
                  clear h5 h5b
                  subst h6
                  have nn : ((n : Int) != (n : Int)) = false := by simp
                  go_wp2_with fail
                  refine (HRT.out _).mono ?_
                  rintro e w4 ⟨_, rfl, rfl, hg4⟩
                  have hz4 := HZ6.out.grew hg4
                  go_wp2_with (first | refine wpList_store_blk (c := zcells) hz4 (by rfl) 30 (.tmp 2) (.tmp 96) (by rfl) (by rfl) (by rfl) (by kernel_rfl) rfl (by kernel_rfl) ?_)
                  exact bodyPost_ret (results_ct rfl _ _ w.heap.size 30 zcells.toArray (0, 0) _ rfl (hz4.setRow zcells) Try.underlying30 (by rfl) (by rfl)) rfl ⟨_, rfl, by rw [HR2.out]; rfl, Grew.setRow (Grew.trans HG6.out hg4) (Nat.le_refl _) _⟩
                · have nn : (k2 != (n : Int)) = true := by simpa using h6
                  have hz4 := HZ6.out
                  clear h5 h6
                  go_wp2_with (first | refine wpList_store_blk (c := zcells) hz4 (by rfl) 30 (.tmp 2) (.tmp 96) (by rfl) (by rfl) (by rfl) (by kernel_rfl) rfl (by kernel_rfl) ?_)
                  exact bodyPost_ret (results_ct rfl _ _ w.heap.size 30 zcells.toArray (0, 0) _ rfl (hz4.setRow zcells) Try.underlying30 (by rfl) (by rfl)) rfl ⟨_, rfl, by rw [HR2.out]; rfl, Grew.setRow HG6.out (Nat.le_refl _) _⟩
        · have x3 : (x == 3) = false := by simpa using h3
          obtain ⟨z, hz⟩ : ∃ z, (x == 2) = z := ⟨_, rfl⟩
          have hz2 : decide (x = 2) = z := by rw [← hz]; rfl
          have HZZ := Lib.hid hz2
          obtain ⟨tx, k2, er, hq2⟩ : ∃ b k2 er, getT l k 200 = (b, k2, er) := ⟨_, _, _, rfl⟩
          have HG3 := Lib.hid (fun w' hg => HT.out w' hg (k : Int))
          rw [hq2] at HG3
          have HQ2 := Lib.hid hq2
          obtain ⟨s, hs⟩ : ∃ s, s = strOfNums tx := ⟨_, rfl⟩
          simp only [← hs] at HG3
          have HS := Lib.hid hs
          clear HG2 HT hq2 hz2 hs
          go_enter Try.func13, Try.ntmps13
          go_wp2_with fail
          refine (HG1.out _ HGW.out).mono ?_
          rintro e w1 ⟨_, rfl, rfl, hg1⟩
          go_wp2_with fail
          have k1 := HK.out w1 hg1
          have hw0 : IntKind.i64.wrap (q' : Int) = (q' : Int) := IntWalk.i64_in _ (by omega)
          apply region_grew [Is _, Is _, Is _, Is _, Is _, Is _, Is _, Is _, Is _, Is _, Is _, NewB 30 zcells w1.heap.size] [([(0, none)], none), ([(43, some 0)], none), ([(44, some 1)], none), ([(45, some 2)], none), ([(0, none)], none), ([(47, some 4)], none), ([(48, some 5)], none), ([(49, some 6)], none), ([(4, none)], none), ([(51, some 8)], none), ([(46, some 3), (50, some 7), (52, some 9)], none), ([], none)] [(7, 11), (43, 0), (44, 1), (45, 2), (46, 3), (47, 4), (48, 5), (49, 6), (50, 7), (51, 8), (52, 9), (53, 10)] rfl (by kernel_rfl) (by kernel_rfl) (show Stable Grew _ from ⟨Is.stable _, Is.stable _, Is.stable _, Is.stable _, Is.stable _, Is.stable _, Is.stable _, Is.stable _, Is.stable _, Is.stable _, Is.stable _, NewB.stable _ _ _, trivial⟩)
          · show OpsHold _ _ _ _ _ _ _ _ _
            refine ⟨fun a_ wx hR hD K hK => ?_, ?_⟩
            · have hG : Grew w1 wx := (Grew.drew _).trans hR
              simp [Deps, Dep, at_, Is] at hD
              go_simp
              exact hK _ _ (Grew.refl _) rfl
            refine ⟨fun a_ wx hR hD K hK => ?_, ?_⟩
            · have hG : Grew w1 wx := (Grew.drew _).trans hR
              simp [Deps, Dep, at_, Is] at hD
              go_simp
              exact hK _ _ (Grew.refl _) rfl
            refine ⟨fun a_ wx hR hD K hK => ?_, ?_⟩
            · have hG : Grew w1 wx := (Grew.drew _).trans hR
              simp [Deps, Dep, at_, Is] at hD
              have e_ := pw_cell_below hG k1
              go_simp
              exact hK _ _ (Grew.refl _) rfl
            refine ⟨fun a_ wx hR hD K hK => ?_, ?_⟩
            · have hG : Grew w1 wx := (Grew.drew _).trans hR
              simp [Deps, Dep, at_, Is] at hD
              go_simp
              exact hK _ _ (Grew.refl _) rfl
            refine ⟨fun a_ wx hR hD K hK => ?_, ?_⟩
            · have hG : Grew w1 wx := (Grew.drew _).trans hR
              simp [Deps, Dep, at_, Is] at hD
              go_simp
              exact hK _ _ (Grew.refl _) rfl
            refine ⟨fun a_ wx hR hD K hK => ?_, ?_⟩
            · have hG : Grew w1 wx := (Grew.drew _).trans hR
              simp [Deps, Dep, at_, Is] at hD
              go_simp
              exact hK _ _ (Grew.refl _) rfl
            refine ⟨fun a_ wx hR hD K hK => ?_, ?_⟩
            · have hG : Grew w1 wx := (Grew.drew _).trans hR
              simp [Deps, Dep, at_, Is] at hD
              have e_ := pw_cell_below hG k1
              go_simp
              exact hK _ _ (Grew.refl _) rfl
            refine ⟨fun a_ wx hR hD K hK => ?_, ?_⟩
            · have hG : Grew w1 wx := (Grew.drew _).trans hR
              simp [Deps, Dep, at_, Is] at hD
              go_simp
              exact hK _ _ (Grew.refl _) rfl
            refine ⟨fun a_ wx hR hD K hK => ?_, ?_⟩
            · have hG : Grew w1 wx := (Grew.drew _).trans hR
              simp [Deps, Dep, at_, Is] at hD
              go_simp
              exact hK _ _ (Grew.refl _) rfl
            refine ⟨fun a_ wx hR hD K hK => ?_, ?_⟩
            · have hG : Grew w1 wx := (Grew.drew _).trans hR
              simp [Deps, Dep, at_, Is] at hD
              go_simp
              exact hK _ _ (Grew.refl _) rfl
            refine ⟨fun a_ wx hR hD K hK => ?_, ?_⟩
            · have hG : Grew w1 wx := (Grew.drew _).trans hR
              simp [Deps, Dep, at_, Is] at hD
              obtain ⟨hd0, hd1, hd2⟩ := hD
              go_simp
              exact hK _ _ (Grew.refl _) rfl
            refine ⟨fun a_ wx hR hD K hK => ?_, ?_⟩
            · have hG : Grew w1 wx := (Grew.drew _).trans hR
              go_simp
              exact hK _ _ (Grew.alloc _ _) ⟨_, rfl, by simpa using hG.size, Blk.new _ _ _⟩
            trivial
          · show EndHold _ _ _ _ _ _ _
            intro v7
            refine end_all (xs := [_, _, _, _, _, _, _, _, _, _, _]) ⟨rfl, rfl, rfl, rfl, rfl, rfl, rfl, rfl, rfl, rfl, rfl, trivial⟩ ?_
            rintro w2 hR1 ⟨-, hNew⟩
            refine ⟨?_⟩
            have hG_w2 : Grew w1 w2 := (Grew.drew _).trans hR1
            clear hR1
            simp only [Act.put, List.setIfInBounds_toArray, List.set_cons_succ, List.set_cons_zero, dropN, putEach]
            obtain ⟨g7, rfl, hg7, hb7⟩ := hNew
            have hgz : w.heap.size < g7 := by have := hg1.size; simp at this; omega
            clear k1 hw0 k0'
            have hb7b := hb7.setRow [.bool false, .int .i64 (q' : Int), .bool z, .string ⟨#[]⟩, .int .i64 0]
            have hg7w : Grew w (w2.setRow g7 ([.bool false, .int .i64 (q' : Int), .bool z, .string ⟨#[]⟩, .int .i64 0] : List Value).toArray) := Grew.setRow (Grew.trans (Grew.trans HGW.out hg1) hG_w2) (by omega) _
            have hg7z : Grew (w.alloc (.cells zcells.toArray 30)) (w2.setRow g7 ([.bool false, .int .i64 (q' : Int), .bool z, .string ⟨#[]⟩, .int .i64 0] : List Value).toArray) := Grew.setRow (Grew.trans hg1 hG_w2) (by simp; omega) _
            have HNE := Lib.hid (show w.heap.size ≠ g7 from by omega)
            have HG7 := Lib.hid hg7w
            have HZ7 := Lib.hid hg7z
            have HB7 := Lib.hid hb7b
            have HL7 := Lib.hid (show w.heap.size ≤ g7 from by omega)
            have q0 : (w2.setRow g7 #[.bool false, .int .i64 (q' : Int), .bool z, .string ⟨#[]⟩, .int .i64 0]).cell? ⟨g7, 0, none⟩ = some (.bool false) := hb7b.at_ 0
            clear hb7b hg7w hg7z hg7 hgz
            have HB0 := Lib.hid hb7
            clear hb7
            go_wp2_with (first | refine wpList_store_blk (c := [.bool false, .int .i64 (q' : Int), .bool z, .string ⟨#[]⟩, .int .i64 0]) HB0.out (by rfl) 30 (.tmp 7) (.tmp 53) (by rfl) (by rfl) (by rfl) (by kernel_rfl) rfl (pkc_one _ _ _ _ _) ?_)
            clear q0
            refine (HG3.out _ HG7.out).mono ?_
            rintro e w3 ⟨_, rfl, rfl, hg3⟩
            have hz3 := HBL.out w3 (Grew.trans HZ7.out hg3)
            have hb3 := HB7.out.grew hg3
            have hdec : decP l = if er ≠ 0 then none else if k2 = l.length ∧ rightP ⟨false, (q' : Int), z, s, 0⟩ = true then some ⟨false, (q' : Int), z, s, 0⟩ else none := by
              unfold decP parP
              rw [← HX.out, if_neg h1, HQ.out, if_neg (by omega), if_neg h3]
              simp only
              rw [HQ2.out, HZZ.out, HS.out]
            by_cases h4 : er ≠ 0
            · rw [if_pos h4] at hdec
              have hres : R = pkR zeroPk 4 := by rw [HRes.out]; unfold decRes; rw [hdec]
              have HR2 := Lib.hid hres
              clear hres hdec
              have d4 : (er != 0) = true := by simpa using h4
              clear h4
              go_wp2_with (first | refine wpList_store_blk (c := zcells) hz3 (by rfl) 30 (.tmp 2) (.tmp 83) (by rfl) (by rfl) (by rfl) (by kernel_rfl) rfl (by kernel_rfl) ?_)
              exact bodyPost_ret (results_ct rfl _ _ w.heap.size 30 zcells.toArray (0, 0) _ rfl (hz3.setRow zcells) Try.underlying30 (by rfl) (by rfl)) rfl ⟨_, rfl, by rw [HR2.out]; rfl, Grew.setRow (Grew.trans HG7.out hg3) (Nat.le_refl _) _⟩
            · rw [if_neg h4] at hdec
              obtain rfl : er = 0 := by omega
              have HDEC := Lib.hid hdec
              clear hdec
              have q0 := hb3.at_ 0
              have q1 := hb3.at_ 1
              have q2 := hb3.at_ 2
              have q3 := hb3.at_ 3
              have q4 := hb3.at_ 4
              simp only [List.getElem?_cons_zero, List.getElem?_cons_succ] at q0 q1 q2 q3 q4
              have ff := hb3.fz 3
              have hb6 : Blk (w3.setCell ⟨g7, 3, none⟩ (.string s)) g7 30 [.bool false, .int .i64 (q' : Int), .bool z, .string s, .int .i64 0] := hb3.set 3 _
              have hz6 := hz3.far (p := ⟨g7, 3, none⟩) HNE.out (.string s)
              have hg6 : Grew w (w3.setCell ⟨g7, 3, none⟩ (.string s)) := by
                have := Grew.trans HG7.out hg3
                exact ⟨this.os, this.tape, this.output, by simpa [World.setCell] using this.size, fun k hk => by rw [Below.heap_setCell w3 _ _ k (by have := HL7.out; simp; omega)]; exact this.block k hk⟩
              have HB6 := Lib.hid hb6
              have HZ6 := Lib.hid hz6
              have HG6 := Lib.hid hg6
              clear hb6 hz6 hg6 hz3 hb3 h4
              by_cases h5 : k2 = (n : Int) ∧ rightP (⟨false, (q' : Int), z, s, 0⟩) = true
              · obtain ⟨h5a, h5b⟩ := h5
                have HRT := Lib.hid (right_c (⟨false, (q' : Int), z, s, 0⟩) (by show -9223372036854775808 ≤ (0 : Int); omega))
                rw [h5b] at HRT
                have hres : R = pkR (⟨false, (q' : Int), z, s, 0⟩) 0 := by
                  rw [HRes.out]; unfold decRes
                  rw [HDEC.out, if_pos ⟨by rw [← HN.out]; exact h5a, h5b⟩]
                have HR2 := Lib.hid hres
                clear hres h5b
                subst h5a
                have nn : ((n : Int) != (n : Int)) = false := by simp
                go_wp2_with fail
                refine (HRT.out _).mono ?_
                rintro e w4 ⟨_, rfl, rfl, hg4⟩
                have hb4 := HB6.out.grew hg4
                have hz4 := HZ6.out.grew hg4
                go_wp2_with (first | refine wpList_load_blk hb4 (by rfl) 30 (.tmp 7) (by rfl) (by rfl) _ Try.underlying30 (by rfl) (by kernel_rfl) ?_ | refine wpList_store_blk (c := [.bool false, .int .i64 (q' : Int), .bool z, .string s, .int .i64 0]) hz4 (by rfl) 30 (.tmp 2) (.tmp 97) (by rfl) (by rfl) (by rfl) (by kernel_rfl) rfl (pkc_one _ _ _ _ _) ?_)
                exact bodyPost_ret (results_ct rfl _ _ w.heap.size 30 ([.bool false, .int .i64 (q' : Int), .bool z, .string s, .int .i64 0] : List Value).toArray (0, 0) _ rfl (hz4.setRow ([.bool false, .int .i64 (q' : Int), .bool z, .string s, .int .i64 0] : List Value)) Try.underlying30 (by rfl) (by rfl)) rfl ⟨_, rfl, by rw [HR2.out]; rfl, Grew.setRow (Grew.trans HG6.out hg4) (Nat.le_refl _) _⟩
              · have hres : R = pkR zeroPk 4 := by
                  rw [HRes.out]; unfold decRes
                  rw [HDEC.out, if_neg (by rw [← HN.out]; exact h5)]
                have HR2 := Lib.hid hres
                clear hres
                by_cases h6 : k2 = (n : Int)
                · have h5b : rightP (⟨false, (q' : Int), z, s, 0⟩) = false := by
                    cases hh : rightP (⟨false, (q' : Int), z, s, 0⟩) with
                    | false => rfl
                    | true => exact absurd ⟨h6, hh⟩ h5
                  have HRT := Lib.hid (right_c (⟨false, (q' : Int), z, s, 0⟩) (by show -9223372036854775808 ≤ (0 : Int); omega))
                  rw [h5b] at HRT
                  clear h5 h5b
                  subst h6
                  have nn : ((n : Int) != (n : Int)) = false := by simp
                  go_wp2_with fail
                  refine (HRT.out _).mono ?_
                  rintro e w4 ⟨_, rfl, rfl, hg4⟩
                  have hz4 := HZ6.out.grew hg4
                  go_wp2_with (first | refine wpList_store_blk (c := zcells) hz4 (by rfl) 30 (.tmp 2) (.tmp 96) (by rfl) (by rfl) (by rfl) (by kernel_rfl) rfl (by kernel_rfl) ?_)
                  exact bodyPost_ret (results_ct rfl _ _ w.heap.size 30 zcells.toArray (0, 0) _ rfl (hz4.setRow zcells) Try.underlying30 (by rfl) (by rfl)) rfl ⟨_, rfl, by rw [HR2.out]; rfl, Grew.setRow (Grew.trans HG6.out hg4) (Nat.le_refl _) _⟩
                · have nn : (k2 != (n : Int)) = true := by simpa using h6
                  have hz4 := HZ6.out
                  clear h5 h6
                  go_wp2_with (first | refine wpList_store_blk (c := zcells) hz4 (by rfl) 30 (.tmp 2) (.tmp 96) (by rfl) (by rfl) (by rfl) (by kernel_rfl) rfl (by kernel_rfl) ?_)
                  exact bodyPost_ret (results_ct rfl _ _ w.heap.size 30 zcells.toArray (0, 0) _ rfl (hz4.setRow zcells) Try.underlying30 (by rfl) (by rfl)) rfl ⟨_, rfl, by rw [HR2.out]; rfl, Grew.setRow HG6.out (Nat.le_refl _) _⟩
end Go.Proofs.Yteaefambkagpbaa.F

-- RowO
namespace Go.Proofs.Yteaefambkagpbaa.F
open Go Go.RowKit Go.Proofs.YteaefambkagpbaaW.PrintWords Go.Proofs.YteaefambkagpbaaW.PrintLast Go.Proofs.YteaefambkagpbaaW.PrintMore Go.Proofs.YteaefambkagpbaaR
set_option linter.unusedSimpArgs false
set_option linter.unusedVariables false
/-- v is a row of n elements with these cells, in a block of its own that lies from base on -/
def RowO (w : World) (base : Nat) (e : TypeId) (size : Nat) (v : Value) (n : Nat) (xs : List Value) : Prop :=
  xs.length = n * size ∧ ((v = .slice none 0 0 ∧ n = 0) ∨ ∃ g o cap cur, v = .slice (some ⟨g, o, none⟩) n cap ∧ base ≤ g ∧ w.heap[g]? = some (.cells cur e (0, 0)) ∧ n ≤ cap ∧ cap ≤ maxLen ∧ o + cap * size ≤ cur.size ∧ (cur.toList.drop o).take (n * size) = xs)
section
variable {w w' : World} {base : Nat} {e : TypeId} {size : Nat} {v : Value} {n : Nat} {xs : List Value}
theorem rowO_of_own (h : w.ownsRow base e size v n xs) : RowO w base e size v n xs := by
  refine ⟨h.1, h.2.imp id fun ⟨g, cap, cur, h1, h2, h3, h4, h5, h6, h7⟩ => ⟨g, 0, cap, cur, h1, h2, h3, h4, h5, by omega, by simpa using h7⟩⟩
theorem rowO_nil (w : World) (base : Nat) (e : TypeId) (size : Nat) : RowO w base e size (.slice none 0 0) 0 [] := ⟨by simp, .inl ⟨rfl, rfl⟩⟩
theorem RowO.slice (h : RowO w base e size v n xs) : ∃ A c, v = .slice A n c ∧ n ≤ c := by
  rcases h.2 with ⟨rfl, rfl⟩ | ⟨g, o, cap, cur, rfl, _, _, hn, _⟩
  · exact ⟨none, 0, rfl, Nat.le_refl _⟩
  · exact ⟨_, cap, rfl, hn⟩
theorem RowO.base_ (h : RowO w base e size v n xs) (k : Nat) (hk : v.ownBlock = some k) : base ≤ k := by
  rcases h.2 with ⟨rfl, _⟩ | ⟨g, o, cap, cur, rfl, hb, _⟩
  · simp [Value.ownBlock] at hk
  · have : g = k := by simpa [Value.ownBlock] using hk
    omega
theorem RowO.lt (h : RowO w base e size v n xs) (k : Nat) (hk : v.ownBlock = some k) : k < w.heap.size := by
  rcases h.2 with ⟨rfl, _⟩ | ⟨g, o, cap, cur, rfl, hb, hh, _⟩
  · simp [Value.ownBlock] at hk
  · have : g = k := by simpa [Value.ownBlock] using hk
    subst this
    exact blk_lt hh
theorem RowO.move (h : RowO w base e size v n xs) (hm : ∀ k, v.ownBlock = some k → w'.heap[k]? = w.heap[k]?) : RowO w' base e size v n xs := by
  refine ⟨h.1, h.2.imp id fun ⟨g, o, cap, cur, h1, h2, h3, h4⟩ => ⟨g, o, cap, cur, h1, h2, ?_, h4⟩⟩
  rw [hm g (by rw [h1]; rfl)]; exact h3
theorem RowO.upd {S : Nat → Prop} (h : RowO w base e size v n xs) (hu : Upd S w w') (hn : ∀ k, v.ownBlock = some k → ¬ S k) : RowO w' base e size v n xs :=
  h.move fun k hk => hu.block k (h.lt k hk) (hn k hk)
theorem RowO.grew (h : RowO w base e size v n xs) (hu : Grew w w') : RowO w' base e size v n xs := h.move fun k hk => hu.block k (h.lt k hk)
theorem RowO.less {b : Nat} (h : RowO w b e size v n xs) (hb : base ≤ b) : RowO w base e size v n xs :=
  ⟨h.1, h.2.imp id fun ⟨g, o, cap, cur, h1, h2, h3⟩ => ⟨g, o, cap, cur, h1, Nat.le_trans hb h2, h3⟩⟩
theorem RowO.ne {g : Nat} {t : TypeId} {cs : List Value} (h : RowO w base e size v n xs) (hg : Blk w g t cs) (hne : e ≠ t) : v.ownBlock ≠ some g := by
  intro he
  rcases h.2 with ⟨rfl, _⟩ | ⟨g', o, cap, cur, rfl, hb, hh, _⟩
  · simp [Value.ownBlock] at he
  · have : g' = g := by simpa [Value.ownBlock] using he
    subst this
    unfold Blk at hg
    rw [hg] at hh
    injection hh with hh
    injection hh with h1 h2 h3
    exact hne h2.symm
theorem RowO.type_ne {b2 n2 s2 : Nat} {e2 : TypeId} {v2 : Value} {ys : List Value} (h : RowO w base e size v n xs) (h2 : RowO w b2 e2 s2 v2 n2 ys) (hne : e ≠ e2) : ∀ k, v.ownBlock = some k → v2.ownBlock ≠ some k := by
  intro k hk hk2
  rcases h.2 with ⟨rfl, _⟩ | ⟨g, o, cap, cur, rfl, hb, hh, _⟩
  · simp [Value.ownBlock] at hk
  · rcases h2.2 with ⟨rfl, _⟩ | ⟨g', o', cap', cur', rfl, hb', hh', _⟩
    · simp [Value.ownBlock] at hk2
    · have e1 : g = k := by simpa [Value.ownBlock] using hk
      have e2 : g' = k := by simpa [Value.ownBlock] using hk2
      subst e1
      subst e2
      rw [hh] at hh'
      injection hh' with hh'
      injection hh' with h1 h2 h3
      exact hne h2
/-- its cells -/
theorem RowO.at_ (h : RowO w base e size v n xs) (hp : 0 < n) : ∃ g o cap, v = .slice (some ⟨g, o, none⟩) n cap ∧ n ≤ cap ∧ base ≤ g ∧ g < w.heap.size ∧ (∀ j, j < n * size → w.cell? ⟨g, o + j, none⟩ = xs[j]?) ∧ ∀ j, w.frozen? ⟨g, j, none⟩ = false := by
  rcases h.2 with ⟨rfl, h0⟩ | ⟨g, o, cap, cur, rfl, hb, hh, hnc, _, hs, hx⟩
  · omega
  · refine ⟨g, o, cap, rfl, hnc, hb, blk_lt hh, fun j hj => ?_, fun j => blk_frozen hh j⟩
    rw [blk_cell hh, ← hx, List.getElem?_take_of_lt hj, List.getElem?_drop, Array.getElem?_toList]
/-- a store into it -/
theorem RowO.set (h : RowO w base e size v n xs) {g o cap : Nat} (hv : v = .slice (some ⟨g, o, none⟩) n cap) (j : Nat) (hj : j < n * size) (u : Value) : RowO (w.setCell ⟨g, o + j, none⟩ u) base e size v n (xs.set j u) := by
  refine ⟨by rw [List.length_set]; exact h.1, ?_⟩
  rcases h.2 with ⟨h1, h0⟩ | ⟨g', o', cap', cur, h1, hb, hh, hnc, hm, hs, hx⟩
  · subst h0; simp at hj
  · rw [hv] at h1
    injection h1 with h1 h2 h3
    injection h1 with h1
    injection h1 with h1 h4
    subst h1 h3 h4
    refine .inr ⟨g, o, cap, cur.setIfInBounds (o + j) u, hv, hb, ?_, hnc, hm, by simpa using hs, ?_⟩
    · exact blk_set hh (o + j) u
    · rw [Array.toList_setIfInBounds, ← hx, List.drop_set, if_neg (by omega), Nat.add_sub_cancel_left, List.take_set]
/-- cut at its head -/
theorem RowO.cut {P : Program} (h : RowO w base e size v n xs) (t : TypeId) (kl : IntKind) {i : TypeInfo} (ht : P.underlying t = some (.slice e)) (hi : P.info? e = some i) (hsz : i.size = size) (m : Nat) (hm : m ≤ n) :
    ∃ v', (∀ W : World, (Instr.slice t v (some (.int kl (m : Int))) none none).run P W = .ok v' W) ∧ RowO w base e size v' (n - m) (xs.drop (m * size)) ∧ (v'.ownBlock = v.ownBlock) := by
  have hel : P.elem t = e := by simp [Program.elem, ht]
  rcases h.2 with ⟨rfl, rfl⟩ | ⟨g, o, cap, cur, rfl, hb, hh, hnc, hcm, hs, hx⟩
  · obtain rfl : m = 0 := by omega
    refine ⟨.slice none 0 0, fun W => ?_, ⟨by simp [h.1], .inl ⟨rfl, rfl⟩⟩, rfl⟩
    simp [Instr.slice, run_underlying ht, sizeOf, typeInfo, hel, hi, asIntOf, go_sem]
  · have hl := h.1
    by_cases hc : cap = m
    · obtain rfl : n = m := by omega
      subst hc
      refine ⟨.slice (some ⟨g, o, none⟩) 0 0, fun W => ?_, ⟨?_, .inr ⟨g, o, 0, cur, by simp, hb, hh, by omega, by omega, by omega, ?_⟩⟩, rfl⟩
      · simp [Instr.slice, run_underlying ht, sizeOf, typeInfo, hel, hi, asIntOf, go_sem]
      · rw [List.length_drop, hl]; simp
      · simp [List.drop_of_length_le (Nat.le_of_eq hl)]
    · refine ⟨.slice (some ⟨g, o + m * size, none⟩) (n - m) (cap - m), fun W => ?_, ⟨?_, .inr ⟨g, o + m * size, cap - m, cur, rfl, hb, hh, by omega, by unfold maxLen at *; omega, ?_, ?_⟩⟩, rfl⟩
      · have h1 : m ≤ cap := by omega
        have h2 : (m : Int) ≤ (n : Int) := by omega
        have h3 : (n : Int) ≤ (cap : Int) := by omega
        have h4 : ¬ (cap : Int) - (m : Int) = 0 := by omega
        have h5 : ¬ (cap - m = 0) := by omega
        have h6 : ((n : Int) - (m : Int)).toNat = n - m := by omega
        have h7 : ((cap : Int) - (m : Int)).toNat = cap - m := by omega
        simp [Instr.slice, run_underlying ht, sizeOf, typeInfo, hel, hi, asIntOf, go_sem, h1, h2, h3, h4, h5, h6, h7, hm, hnc, Addr.add, hsz]
        rw [if_neg hc]
        congr 1
        split
        · rename_i hz; rw [hz]; rfl
        · rfl
      · rw [List.length_drop, hl, Nat.sub_mul]
      · rw [Nat.sub_mul]
        have := Nat.mul_le_mul_right size (show m ≤ cap by omega)
        omega
      · rw [← hx, List.drop_take, List.drop_drop, Nat.sub_mul]
end
/-- one element, of some cells in a block of its own, behind a row of one's own -/
theorem app_rowO {P : Program} (W : World) (base : Nat) (t e ty : TypeId) (z : Value) (size bytes : Nat) (ht : P.underlying t = some (.slice e)) (hinfo : (P.info? e).map (fun i => (i.zero, i.size, i.bytes)) = some (some z, size, bytes)) (hz : z.cells.size = size) (hs0 : 0 < size) (hb0 : 0 < bytes)
    (v : Value) (n : Nat) (xs : List Value) (g1 : Nat) (cs : List Value) (hcs : cs.length = size) (h1 : ∀ u ∈ cs, u.oneCell' = true) (HO : RowO W base e size v n xs) (HB : Blk W g1 e cs) (hbase : base ≤ W.heap.size) (hl : (n + 1) * bytes ≤ 140737488355328) :
    ∃ v1 w1, (Builtin.append_ #[t, t] ty #[v, .slice (some ⟨g1, 0, none⟩) 1 1]).run P W = .ok v1 w1 ∧ RowO w1 base e size v1 (n + 1) (xs ++ cs) ∧ W.grownBy w1 v.ownBlock ∧ (v1.ownBlock = v.ownBlock ∨ ∃ k, v1.ownBlock = some k ∧ W.heap.size ≤ k) := by
  obtain ⟨i0, hi, hzz⟩ := Option.map_eq_some_iff.1 hinfo
  simp only [Prod.mk.injEq] at hzz
  obtain ⟨hz0, hz1, hz2⟩ := hzz
  subst hz1
  subst hz2
  have hlen : n + 1 ≤ 140737488355328 := Nat.le_trans (Nat.le_mul_of_pos_right _ hb0) hl
  have hnews : ∀ j u, cs[j]? = some u → W.cell? ((⟨g1, 0, none⟩ : Addr).add j) = some u := fun j u hu => by rw [add_plain, HB.at_]; simpa using hu
  have hl2 : (xs ++ cs).length = (n + 1) * i0.size := by rw [List.length_append, HO.1, hcs, Nat.add_mul, Nat.one_mul]
  rcases HO.2 with ⟨rfl, rfl⟩ | ⟨g, o, cap, cur, rfl, hbg, hg, hnc, hcm, hcs2, htake⟩
  · obtain ⟨v1, w1, hr, h2, h3, h4⟩ := app_cells (P := P) W base t e ty z i0.size i0.bytes ht hinfo hz hs0 hb0 (.slice none 0 0) 0 xs g1 cs hcs h1 ⟨HO.1, .inl ⟨rfl, rfl⟩⟩ HB hbase hl
    exact ⟨v1, w1, hr, rowO_of_own h2, h3, h4⟩
  · by_cases hroom : n + 1 ≤ cap
    · have hmul := Nat.mul_le_mul_right i0.size hroom
      have hfit : o + n * i0.size + 0 + cs.length ≤ cur.size := by rw [hcs]; rw [Nat.add_mul, Nat.one_mul] at hmul; omega
      have hf := run_firstCells_some (P := P) W i0.size 1 ⟨g1, 0, none⟩ 1 1 cs (by rw [hcs]; simp) hnews
      have hst := run_storeCells_at P g (o + n * i0.size) e cs 0 cur W hg hfit h1
      simp only [Nat.add_zero] at hst
      refine ⟨.slice (some ⟨g, o, none⟩) (n + 1) cap, W.setRow g (cur.toList.take (o + n * i0.size) ++ cs ++ cur.toList.drop (o + n * i0.size + cs.length)).toArray, ?_, ⟨hl2, .inr ⟨g, o, cap, _, rfl, hbg, setRow_heap W g cur _ e _ hg, hroom, hcm, ?_, ?_⟩⟩, ⟨rfl, rfl, rfl, by simp, fun k _ hk => setRow_other W g k _ (fun e => hk (by simp [Value.ownBlock, e]))⟩, .inl rfl⟩
      · have e9 : (⟨g, o, none⟩ : Addr).add (n * i0.size) = ⟨g, o + n * i0.size, none⟩ := by simp [Addr.add]
        simp [Builtin.append_, run_underlying ht, sizeOf, typeInfo, hi, Builtin.lenOf, hroom, hf, e9, hst]
      · simp only [List.size_toArray, List.length_append, List.length_take, List.length_drop, Array.length_toList]
        omega
      · have hh : (List.take (o + n * i0.size) cur.toList).length = o + n * i0.size := by rw [List.length_take, Array.length_toList]; omega
        rw [List.append_assoc, List.drop_append_of_le_length (by rw [hh]; omega), ← List.append_assoc, List.drop_take, Nat.add_sub_cancel_left, htake, ← hl2]
        exact List.take_left
    · have holds : ∀ j u, xs[j]? = some u → W.cell? ((⟨g, o, none⟩ : Addr).add j) = some u := fun j u hu => by
        have hj : j < n * i0.size := by
          rcases Nat.lt_or_ge j xs.length with h | h
          · rw [HO.1] at h; exact h
          · rw [List.getElem?_eq_none h] at hu; cases hu
        rw [show (⟨g, o, none⟩ : Addr).add j = ⟨g, o + j, none⟩ from by simp [Addr.add], blk_cell hg, ← hu, ← htake, List.getElem?_take_of_lt hj, List.getElem?_drop, Array.getElem?_toList]
      have hr := run_append_grow (P := P) W t ty e i0 z ht hi hz0 ⟨g, o, none⟩ n cap xs HO.1 holds ⟨g1, 0, none⟩ 1 1 cs (by rw [hcs]; simp) hnews (by omega) (by omega) (growslice_fits (by omega) hl)
      have hge := grownCap_ge W (n + 1) cap e
      have hcm2 : grownCap W (n + 1) cap e ≤ maxLen := grownCap_le_maxLen W (n + 1) cap e (by unfold maxLen; omega)
      refine ⟨_, _, hr, ⟨hl2, .inr ⟨W.heap.size, 0, _, _, rfl, hbase, heap_alloc_new W.drew _, hge, hcm2, ?_, ?_⟩⟩, ⟨rfl, rfl, rfl, by simp, fun k hk _ => Below.heap_alloc W.drew _ k hk⟩, .inr ⟨_, rfl, Nat.le_refl _⟩⟩
      · simp only [Array.size_append, List.size_toArray, size_zeroCells, hz, HO.1, hcs]
        have : (n + 1) * i0.size = n * i0.size + i0.size := by rw [Nat.add_mul, Nat.one_mul]
        have h9 : grownCap W (n + 1) cap e * i0.size = (n + 1) * i0.size + (grownCap W (n + 1) cap e - (n + 1)) * i0.size := by rw [← Nat.add_mul]; congr 1; omega
        omega
      · simp only [Array.toList_append, List.append_assoc, List.drop_zero]
        rw [← List.append_assoc, ← hl2]
        exact List.take_left
end Go.Proofs.Yteaefambkagpbaa.F

-- RegB
namespace Go.Proofs.YteaefambkagpbaaR
open Go Go.RowKit
section
variable (P : Program) (Q : Exit → Act → World → Prop) (R Rp : World → World → Prop) (V : Nat → World → Value → Prop) (a0 : Act) (w0 : World) (E : Act → World → Prop)
def PhGoalF (o : Oper) (g : GuardT) (i : Nat) (r : Reads) : Phase → Prop
  | .plain => ∀ a w, R w0 w → Deps V a0 a w r → OpGoal P Q R V o g i a w
  | .float => ∀ a w, (R w0 w ∨ ∃ w1, R w0 w1 ∧ Rp w1 w) → Deps V a0 a w r → OpGoal P Q (fun w w' => w' = w) V o g i a w
  | .big => o.guard = none ∧ ∀ a w, R w0 w → Deps V a0 a w r → ∀ K : Act → World → Prop, (∀ v w', Rp w w' → V i w' v → K (a.put o.dst v) w') → o.wp P a w K Q
def PhHoldF : Nat → List Oper → List (Reads × GuardT) → List Phase → Prop
  | i, o :: os, (r, g) :: rs, k :: ks => PhGoalF P Q R Rp V a0 w0 o g i r k ∧ PhHoldF (i + 1) os rs ks
  | _, _, _, _ => True
end

section
variable {P : Program} {ops : Array Oper} {Q : Exit → Act → World → Prop} {R Rp : World → World → Prop} {V : Nat → World → Value → Prop} {a0 : Act} {w0 : World} {E : Act → World → Prop}
theorem phHold_atF : ∀ (os : List Oper) (rs : List (Reads × GuardT)) (ks : List Phase) (k i : Nat) (o : Oper) (r : Reads) (g : GuardT) (p : Phase), PhHoldF P Q R Rp V a0 w0 k os rs ks → os[i]? = some o → rs[i]? = some (r, g) → ks[i]? = some p →
    PhGoalF P Q R Rp V a0 w0 o g (k + i) r p
  | [], _, _, _, i, o, r, g, p, _, ho, _, _ => by simp at ho
  | o' :: os, [], _, _, i, o, r, g, p, _, _, hr, _ => by simp at hr
  | o' :: os, (r', g') :: rs, [], _, i, o, r, g, p, _, _, _, hk => by simp at hk
  | o' :: os, (r', g') :: rs, p' :: ks, k, 0, o, r, g, p, h, ho, hr, hk => by
    simp at ho hr hk
    obtain ⟨rfl, rfl⟩ := hr
    subst ho
    subst hk
    exact h.1
  | o' :: os, (r', g') :: rs, p' :: ks, k, i + 1, o, r, g, p, h, ho, hr, hk => by
    have := phHold_atF os rs ks (k + 1) i o r g p h.2 (by simpa using ho) (by simpa using hr) (by simpa using hk)
    rw [show k + 1 + i = k + (i + 1) from by omega] at this
    exact this
theorem wpAny_invF {A : List Nat} {reads : List (Reads × GuardT)} {ks : List Phase} (hA : edgesOk ops A = true) (hP : pairsOk ops A = true) (hR : readsOk ops reads a0.tmps.size = true) (hT : tailOk ops A reads.length = true)
    (hrf : ∀ w, R w w) (htr : ∀ a b c, R a b → R b c → R a c) (hK : phaseOk A ks reads.length = true)
    (hst : ∀ i, ks[i]? ≠ some .big → ∀ w w' v, R w w' ∨ Rp w w' → V i w v → V i w' v)
    (hops : PhHoldF P Q R Rp V a0 w0 0 ops.toList reads ks)
    (hend : ∀ listed a w, (∀ j, listed.getD j false = decide (j < reads.length)) → InvB ops reads.length R Rp V ks a0 w0 listed a w → wpList P ops Q (ops.toList.drop reads.length) a w) :
    ∀ (fuel : Nat) (listed : Array Bool) (a : Act) (w : World), listed.toList.count false ≤ fuel → InvB ops reads.length R Rp V ks a0 w0 listed a w → wpAny P .any ops Q fuel listed a w := by
  have hT0 := hT
  simp only [tailOk, Bool.and_eq_true, decide_eq_true_eq, List.all_eq_true, Bool.or_eq_true, List.mem_range] at hT0
  -- when all of the head has come up
  have fin : ∀ (fuel : Nat) (listed : Array Bool) (a : Act) (w : World), listed.toList.count false ≤ fuel → InvB ops reads.length R Rp V ks a0 w0 listed a w → (∀ j, j < reads.length → listed.getD j false = true) → wpAny P .any ops Q fuel listed a w := by
    intro fuel listed a w hf hi hall
    have hl : ∀ j, listed.getD j false = decide (j < reads.length) := by
      intro j
      rcases Nat.lt_or_ge j reads.length with h | h
      · rw [hall j h]; simp [h]
      · rw [hi.tail j h]; simp; omega
    refine wpAny_tail hA hT fuel reads.length listed a w (Nat.le_refl _) ?_ hT0.1 hi.lsize hl (hend listed a w hl hi)
    -- those that are not listed are as many as the tail is long
    have : (listed.toList.drop reads.length).count false = listed.size - reads.length := by
      have h1 : listed.toList.drop reads.length = List.replicate (listed.size - reads.length) false := by
        refine List.ext_getElem (by simp) fun j h1 h2 => ?_
        simp only [List.getElem_drop, List.getElem_replicate]
        have h3 : reads.length + j < listed.size := by simp at h1; omega
        have h4 := hi.tail (reads.length + j) (by omega)
        simpa [h3] using h4
      rw [h1, List.count_replicate_self]
    have h2 : (listed.toList.drop reads.length).count false ≤ listed.toList.count false := List.Sublist.count_le _ (List.drop_sublist _ _)
    have := hi.lsize
    omega
  -- before that, nothing of the tail may come up
  have low : ∀ (listed : Array Bool), listed.size = ops.size → Closed ops listed → ∀ i, i ∈ Region.ready .any ops listed → reads.length ≤ i → ∀ j, j < reads.length → listed.getD j false = true := by
    intro listed hs hc i hi hm j hj
    obtain ⟨hun, o, ho, hd⟩ := mem_ready.1 hi
    have hisz := (Array.getElem?_eq_some_iff.1 ho).1
    exact closed_anc hA hc i o ho hd j ((hT0.2 i hisz).resolve_left (by omega) j (by omega))
  intro fuel
  induction fuel with
  | zero =>
    intro listed a w hf hi
    refine fin 0 listed a w hf hi fun j hj => ?_
    have hjs : j < listed.size := by have := hi.lsize; omega
    cases hl : listed.getD j false with
    | true => rfl
    | false =>
      exfalso
      have hv : listed[j] = false := by simpa [hjs] using hl
      have : 0 < listed.toList.count false := List.count_pos_iff.2 (by rw [← hv]; simp)
      omega
  | succ fuel ih =>
    intro listed a w hf hi
    by_cases hall : ∀ j, j < reads.length → listed.getD j false = true
    · exact fin (fuel + 1) listed a w hf hi hall
    refine ⟨fun h => absurd (fun j hj => all_of_ready rfl hA hi.lsize h j (by omega)) hall, fun i hir => ?_⟩
    have him : i < reads.length := by
      rcases Nat.lt_or_ge i reads.length with h | h
      · exact h
      · exact absurd (low listed hi.lsize hi.closed i hir h) hall
    obtain ⟨hun, o, ho, hdeps⟩ := mem_ready.1 hir
    have hisz : i < ops.size := (Array.getElem?_eq_some_iff.1 ho).1
    have hun' : listed.getD i false = false := by rw [getD_irrel (by rw [hi.lsize]; exact hisz) false true]; exact hun
    simp only [readsOk, List.all_eq_true] at hR
    have hRi := hR i (List.mem_range.2 him)
    have hri : reads[i]? = some (reads[i]'(by omega)) := List.getElem?_eq_getElem (by omega)
    generalize hrg : reads[i]'(by omega) = rg at hri
    obtain ⟨r, g⟩ := rg
    rw [ho, hri] at hRi
    simp only [Bool.and_eq_true, List.all_eq_true] at hRi
    obtain ⟨⟨hr, hdst⟩, hg⟩ := hRi
    -- ancestors of i are listed; descendants are not
    have hanc : ∀ k, (A.getD i 0).testBit k = true → listed.getD k false = true := closed_anc hA hi.closed i o ho hdeps
    have hdesc : ∀ j oj, ops[j]? = some oj → (A.getD j 0).testBit i = true → listed.getD j false = false := by
      intro j oj hoj hb
      cases hl : listed.getD j false with
      | false => rfl
      | true =>
        have := closed_anc hA hi.closed j oj hoj (hi.closed j oj hoj hl) i hb
        rw [this] at hun'; cases hun'
    have pair : ∀ i' j' oi' oj', i' < j' → ops[i']? = some oi' → ops[j']? = some oj' → (A.getD j' 0).testBit i' = true ∨ ((∀ t, oi'.dst = some t → t ∉ names ops oj') ∧ ∀ t, oj'.dst = some t → t ∉ oi'.looksAt ops) := by
      intro i' j' oi' oj' hlt hoi hoj
      have h1 := List.all_eq_true.1 hP j' (List.mem_range.2 (Array.getElem?_eq_some_iff.1 hoj).1)
      simp only [hoj, List.all_eq_true, List.mem_range] at h1
      have h2 := h1 i' hlt
      simp only [hoi, Bool.or_eq_true, Bool.and_eq_true] at h2
      rcases h2 with h2 | ⟨h2, h3⟩
      · exact .inl h2
      · refine .inr ⟨fun t ht => ?_, fun t ht => ?_⟩
        · simp [ht] at h2; exact h2
        · simp [ht] at h3; exact h3
    -- the writers that are listed of what i looks at are those ahead of it
    have hlook : ∀ t ∈ o.looksAt ops, lastW ops (fun j => listed.getD j false) t = lastW ops (fun j => decide (j < i)) t := by
      intro t ht
      refine lastW_congr fun j oj hoj hd => ?_
      rcases Nat.lt_trichotomy j i with hlt | rfl | hgt
      · have := (pair j i oj o hlt hoj ho).resolve_right (fun h => h.1 t hd (List.mem_append_right _ ht))
        simp [hlt, hanc j this]
      · simp [hun']
      · have := (pair i j o oj hgt ho hoj).resolve_right (fun h => h.2 t hd ht)
        rw [hdesc j oj hoj this]
        symm; simp; omega
    have hD : Deps V a0 a w r := by
      refine deps_of a w r fun ⟨t, j⟩ hx => ?_
      have h1 := hr (t, j) hx
      simp only [beq_iff_eq, List.contains_iff_mem] at h1
      have h2 := hi.tmps t
      rw [hlook t h1.1, h1.2] at h2
      cases j <;> exact h2
    simp only [phaseOk, Bool.and_eq_true, beq_iff_eq, List.all_eq_true, List.mem_range] at hK
    have hki : ks[i]? = some (ks[i]'(by omega)) := List.getElem?_eq_getElem (by omega)
    generalize hkk : ks[i]'(by omega) = kd at hki
    have hgoal := phHold_atF ops.toList reads ks 0 i o r g kd hops (by simpa using ho) hri hki
    rw [Nat.zero_add] at hgoal
    have big_all : ∀ p, ks[p]? = some .big → ∀ j, j < reads.length → j ≠ p → ks[j]? = some .float ∨ (A.getD p 0).testBit j = true := by
      intro p hp j hj hne
      have hpl : p < reads.length := by
        have := (List.getElem?_eq_some_iff.1 hp).1
        omega
      have := hK.2 p hpl
      rw [hp] at this
      simp only [List.all_eq_true, List.mem_range, Bool.or_eq_true, beq_iff_eq] at this
      rcases this j hj with (h | h) | h
      · exact absurd h hne
      · exact .inl h
      · exact .inr h
    have noBig : kd ≠ .float → ¬ BigIn ks listed := by
      rintro hne ⟨p, hp, hl⟩
      by_cases hip : i = p
      · subst hip; rw [hun'] at hl; cases hl
      · rcases big_all p hp i him hip with h | h
        · rw [hki] at h; exact hne (Option.some.inj h)
        · have hpo : p < ops.size := by
            rcases Nat.lt_or_ge p ops.size with h' | h'
            · exact h'
            · rw [show listed.getD p false = false from by simp [Array.getElem?_eq_none (show listed.size ≤ p by rw [hi.lsize]; exact h')]] at hl; cases hl
          have := closed_anc hA hi.closed p _ (Array.getElem?_eq_getElem hpo) (hi.closed p _ (Array.getElem?_eq_getElem hpo) hl) i h
          rw [this] at hun'; cases hun'
    have bigSet : ∀ {k : Phase}, kd = k → k ≠ .big → (BigIn ks (listed.setIfInBounds i true) ↔ BigIn ks listed) := by
      intro k hk hne
      constructor
      · rintro ⟨p, hp, hl⟩
        by_cases hip : i = p
        · subst hip; rw [hki] at hp; exact absurd (hk.symm.trans (Option.some.inj hp)) hne
        · rw [getD_set_other _ hip] at hl; exact ⟨p, hp, hl⟩
      · rintro ⟨p, hp, hl⟩
        by_cases hip : i = p
        · subst hip; rw [hun'] at hl; cases hl
        · exact ⟨p, hp, by rw [getD_set_other _ hip]; exact hl⟩
    have notBig : ∀ j, listed.getD j false = true → ¬ BigIn ks listed → ks[j]? ≠ some .big := fun j hl hb h => hb ⟨j, h, hl⟩
    -- behind operation i
    have next : ∀ v w', (∀ j, j ≠ i → listed.getD j false = true → ∀ u, V j w u → V j w' u) → (¬ BigIn ks (listed.setIfInBounds i true) → R w0 w') → (BigIn ks (listed.setIfInBounds i true) → ∃ w1, R w0 w1 ∧ Rp w1 w') → V i w' v → wpAny P .any ops Q fuel (listed.setIfInBounds i true) (a.put o.dst v) w' := by
      intro v w' hww he hl hv
      refine ih _ _ _ (unlisted_set hun fuel hf) ⟨he, hl, ?_, ?_, by simp [hi.lsize], ?_, fun j hj => ?_, ?_⟩
      · cases hd : o.dst <;> simp [Act.put, hi.size]
      · cases hd : o.dst <;> simp [Act.put, hi.defers]
      · intro j oj hoj hl e he hb
        by_cases hji : i = j
        · subst hji
          rw [ho] at hoj
          obtain rfl := Option.some.inj hoj
          by_cases hei : i = e.on
          · rw [← hei]; exact getD_set_self (by rw [hi.lsize]; exact hisz) _
          · rw [getD_set_other _ hei]; exact hdeps e he hb
        · rw [getD_set_other _ hji] at hl
          by_cases hei : i = e.on
          · rw [← hei]; exact getD_set_self (by rw [hi.lsize]; exact hisz) _
          · rw [getD_set_other _ hei]; exact hi.closed j oj hoj hl e he hb
      · rw [getD_set_other _ (by omega)]; exact hi.tail j hj
      · intro t
        by_cases hd : o.dst = some t
        · rw [lastW_set ho hd (p := fun j => (listed.setIfInBounds i true).getD j false) (getD_set_self (by rw [hi.lsize]; exact hisz) _) (fun j oj hoj hdj hlt => by
            have := (pair i j o oj hlt ho hoj).resolve_right (fun h => h.1 t hd (by simp [names, hdj]))
            rw [getD_set_other _ (by omega)]
            exact hdesc j oj hoj this)]
          have htn : t < a.tmps.size := by rw [hi.size]; simpa [hd] using hdst
          simp only [hd, Act.put]
          simpa [htn] using hv
        · rw [lastW_congr (q := fun j => listed.getD j false) (fun j oj hoj hdj => by
            by_cases hji : i = j
            · subst hji; rw [ho] at hoj; obtain rfl := Option.some.inj hoj; exact absurd hdj hd
            · exact getD_set_other _ hji)]
          have h2 := hi.tmps t
          have same : (a.put o.dst v).tmps[t]?.getD undef = a.tmps[t]?.getD undef := by
            cases hdd : o.dst with
            | none => rfl
            | some d =>
              have hne : d ≠ t := fun e => hd (by rw [hdd, e])
              simp [Act.put, Array.getElem?_setIfInBounds_ne hne]
          rw [same]
          revert h2
          cases hlw : lastW ops (fun j => listed.getD j false) t with
          | none => exact id
          | some j =>
            have hlj := lastW_listed hlw
            refine hww j ?_ hlj _
            intro e
            subst e
            rw [hun'] at hlj
            cases hlj
    unfold wpOp
    simp only [ho]
    cases kd with
    | big =>
      obtain ⟨hgn, hgoal⟩ := hgoal
      have hnb := noBig (by simp)
      rw [if_pos (by simp [Region.wanted, hgn])]
      refine .inl (hgoal a w (hi.early hnb) hD _ fun v w' hrp hv => ?_)
      have hbig : BigIn ks (listed.setIfInBounds i true) := ⟨i, hki, getD_set_self (by rw [hi.lsize]; exact hisz) _⟩
      exact next v w' (fun j _ hl u hu => hst j (notBig j hl hnb) w w' u (.inr hrp) hu) (fun h => absurd hbig h) (fun _ => ⟨w, hi.early hnb, hrp⟩) hv
    | plain =>
      have hnb := noBig (by simp)
      have hgoal := hgoal a w (hi.early hnb) hD
      have hs := bigSet rfl (by simp)
      have nx : ∀ v w', R w w' → V i w' v → wpAny P .any ops Q fuel (listed.setIfInBounds i true) (a.put o.dst v) w' := fun v w' hr hv =>
        next v w' (fun j _ hl u hu => hst j (notBig j hl hnb) w w' u (.inl hr) hu) (fun _ => htr _ _ _ (hi.early hnb) hr) (fun h => absurd (hs.1 h) hnb) hv
      cases hgg : o.guard with
      | none =>
        rw [hgg] at hg
        cases g with
        | some _ => simp at hg
        | none =>
          rw [if_pos (by simp [Region.wanted, hgg])]
          exact .inl (hgoal _ nx)
      | some kw =>
        obtain ⟨k, want⟩ := kw
        rw [hgg] at hg
        cases g with
        | none => simp at hg
        | some tw =>
          obtain ⟨t, want'⟩ := tw
          simp only [Bool.and_eq_true, beq_iff_eq] at hg
          obtain ⟨rfl, hk⟩ := hg
          have hw := wanted_iff (a := a) hgg hk
          by_cases hv : a.tmps[t]?.getD undef = .bool want
          · rw [if_pos (hw.2 hv)]
            exact .inl (hgoal.1 hv _ nx)
          · rw [if_neg (fun h => hv (hw.1 h))]
            exact nx undef w (hrf w) (hgoal.2 hv)
    | float =>
      have hgoal := hgoal a w (by
        by_cases hbi : BigIn ks listed
        · exact .inr (hi.late hbi)
        · exact .inl (hi.early hbi)) hD
      have hs := bigSet rfl (by simp)
      have nx : ∀ v w', w' = w → V i w' v → wpAny P .any ops Q fuel (listed.setIfInBounds i true) (a.put o.dst v) w' := fun v w' hr hv => by
        subst hr
        exact next v w' (fun j _ _ u hu => hu) (fun h => hi.early (fun hb => h (hs.2 hb))) (fun h => hi.late (hs.1 h)) hv
      cases hgg : o.guard with
      | none =>
        rw [hgg] at hg
        cases g with
        | some _ => simp at hg
        | none =>
          rw [if_pos (by simp [Region.wanted, hgg])]
          exact .inl (hgoal _ nx)
      | some kw =>
        obtain ⟨k, want⟩ := kw
        rw [hgg] at hg
        cases g with
        | none => simp at hg
        | some tw =>
          obtain ⟨t, want'⟩ := tw
          simp only [Bool.and_eq_true, beq_iff_eq] at hg
          obtain ⟨rfl, hk⟩ := hg
          have hw := wanted_iff (a := a) hgg hk
          by_cases hv : a.tmps[t]?.getD undef = .bool want
          · rw [if_pos (hw.2 hv)]
            exact .inl (hgoal.1 hv _ nx)
          · rw [if_neg (fun h => hv (hw.1 h))]
            exact nx undef w rfl (hgoal.2 hv)
end

section
variable {P : Program} {Q : Exit → Act → World → Prop} {V : Nat → World → Value → Prop} {a0 : Act} {w0 : World} {E : Act → World → Prop}
theorem wp_region_bigF {id : Nat} {n : Nat} (ks : List Phase) (V : Nat → World → Value → Prop) (R Rp : World → World → Prop) (reads : List (Reads × GuardT)) (fin : List (Tmp × Nat)) {l : List Oper} (tail : List Oper) (hn : a0.tmps.size = n) (hk : regionOk l.toArray reads fin n = true) (hd : l.drop reads.length = tail) (hm : P.follows .mixedOrders = true)
    (hrf : ∀ w, R w w) (htr : ∀ a b c, R a b → R b c → R a c) (hK : phaseOk (mkAnc l) ks reads.length = true) (hb : ks.contains .big = true)
    (hst : ∀ i, ks[i]? ≠ some .big → ∀ w w' v, R w w' ∨ Rp w w' → V i w v → V i w' v)
    (hops : PhHoldF P Q R Rp V a0 w0.drew 0 l reads ks)
    (hend : EndHold (fun w w' => ∃ w1, R w w1 ∧ Rp w1 w') V w0.drew (wpList P l.toArray Q tail) (fun _ => True) fin a0) :
    (Code.region id l.toArray true).wp P Q a0 w0 := by
  subst hn
  subst hd
  simp only [regionOk, Bool.and_eq_true] at hk
  obtain ⟨⟨⟨⟨hA, hP⟩, hR⟩, hF⟩, hT⟩ := hk
  refine wp_region_any hm ?_
  refine wpAny_invF (Rp := Rp) (ks := ks) (w0 := w0.drew) hA hP hR hT hrf htr hK hst hops ?_ _ _ _ _ (Nat.le_trans List.count_le_length (by simp)) ⟨fun _ => hrf _, ?_, rfl, rfl, by simp, ?_, ?_, ?_⟩
  · intro listed a w hl hi
    simp only [finalOk, Bool.and_eq_true, List.all_eq_true, beq_iff_eq] at hF
    have hF2 : ∀ (j : Nat) (o : Oper) (t : Tmp), l.toArray[j]? = some o → j < reads.length → o.dst = some t → t ∈ fin.map (·.1) := by
      intro j o t ho hj hd
      have := hF.2 o (by
        have h1 : (l.take reads.length)[j]? = some o := by rw [List.getElem?_take_of_lt hj]; simpa using ho
        exact List.mem_of_getElem? h1)
      rw [hd] at this
      simpa using this
    have hlast : ∀ t, lastW l.toArray (fun j => listed.getD j false) t = lastW l.toArray (fun j => decide (j < reads.length)) t := fun t =>
      lastW_congr fun j o ho _ => hl j
    have e : fin.foldl (fun a' x => a'.put (some x.1) ((fun t => a.tmps[t]?.getD undef) x.1)) a0 = a := by
      have h := foldl_put (fun t => a.tmps[t]?.getD undef) fin a0
      have hd : (fin.foldl (fun a' x => a'.put (some x.1) ((fun t => a.tmps[t]?.getD undef) x.1)) a0).defers = a.defers := h.2.1.trans hi.defers.symm
      have ht : (fin.foldl (fun a' x => a'.put (some x.1) ((fun t => a.tmps[t]?.getD undef) x.1)) a0).tmps = a.tmps := by
        refine Array.ext_getElem? fun t => ?_
        rcases Nat.lt_or_ge t a0.tmps.size with hlt | hge
        · rw [h.2.2 t hlt]
          have hat : a.tmps[t]? = some (a.tmps[t]?.getD undef) := by
            have : t < a.tmps.size := by rw [hi.size]; exact hlt
            simp [this]
          by_cases hm : t ∈ fin.map (·.1)
          · rw [if_pos hm]; exact hat.symm
          · rw [if_neg hm]
            have h2 := hi.tmps t
            have hnone : lastW l.toArray (fun j => listed.getD j false) t = none := by
              unfold lastW
              rw [List.find?_eq_none]
              intro j _
              cases ho : l.toArray[j]? with
              | none => simp
              | some o =>
                by_cases hdo : o.dst = some t
                · rcases Nat.lt_or_ge j reads.length with hj | hj
                  · exact absurd (hF2 j o t ho hj hdo) hm
                  · simp only [hi.tail j hj]; simp
                · simp [hdo]
            rw [hnone] at h2
            rw [hat, h2]
            simp [hlt]
        · rw [Array.getElem?_eq_none (by rw [h.1]; exact hge), Array.getElem?_eq_none (by rw [hi.size]; exact hge)]
      generalize fin.foldl (fun a' x => a'.put (some x.1) ((fun t => a.tmps[t]?.getD undef) x.1)) a0 = z at hd ht
      cases z; cases a; simp_all
    have hbin : BigIn ks listed := by
      have hmem := List.contains_iff_mem.1 hb
      obtain ⟨p, hp⟩ := List.mem_iff_getElem?.1 hmem
      refine ⟨p, hp, ?_⟩
      rw [hl p]
      have h1 := (List.getElem?_eq_some_iff.1 hp).1
      have h2 := hK
      simp only [phaseOk, Bool.and_eq_true, beq_iff_eq] at h2
      simp; omega
    have := endHold_at (fun t => a.tmps[t]?.getD undef) w (hi.late hbin) fin _ a0 hend trivial (fun x hx => by
      have h1 := hF.1 x hx
      have h2 := hi.tmps x.1
      rw [hlast, h1] at h2
      exact h2)
    rw [e] at this
    exact this
  · rintro ⟨p, _, hp⟩
    exfalso
    rcases Nat.lt_or_ge p l.length with h | h
    · simp [h] at hp
    · simp [h] at hp
  · intro j o ho hl
    exfalso
    have hj : j < l.length := by simpa using (Array.getElem?_eq_some_iff.1 ho).1
    simp [hj] at hl
  · intro j _
    rcases Nat.lt_or_ge j l.length with h | h
    · simp [h]
    · simp [h]
  · intro t
    have : lastW l.toArray (fun j => (Array.replicate l.toArray.size false).getD j false) t = none := by
      unfold lastW
      rw [List.find?_eq_none]
      intro j hj
      have hj : j < l.length := by simpa using hj
      simp [hj]
    rw [this]


end

theorem region_bigF {P : Program} {Q : Exit → Act → World → Prop} {a0 : Act} {w0 : World} {id : Nat} {n : Nat} {l : List Oper} (Rp : World → World → Prop) (ks : List Phase) (Vs : List (World → Value → Prop)) (reads : List (Reads × GuardT)) (fin : List (Tmp × Nat))
    (hn : a0.tmps.size = n) (hk : regionOk l.toArray reads fin n = true) (hK : phaseOk (mkAnc l) ks reads.length = true) (hb : ks.contains .big = true) (hm : P.follows .mixedOrders = true) (hv : ks.length = Vs.length)
    (hst : StableB Grew Rp ks Vs)
    (hops : PhHoldF P Q Grew Rp (at_ Vs) a0 w0.drew 0 l reads ks)
    (hend : EndHold (fun w w' => ∃ w1, Grew w w1 ∧ Rp w1 w') (at_ Vs) w0.drew (Later (wpList P l.toArray Q (dropN reads l))) (fun _ => True) fin a0) :
    (Code.region id l.toArray true).wp P Q a0 w0 :=
  wp_region_bigF ks (at_ Vs) Grew Rp reads fin _ hn hk (dropN_eq reads l) hm Grew.refl (fun _ _ _ => Grew.trans) hK hb (stableB_at ks Vs hv hst) hops (endHold_later _ _ _ hend)
end Go.Proofs.YteaefambkagpbaaR

-- F38
namespace Go.Proofs.Yteaefambkagpbaa.F
open Go.RowKit Go.Proofs.YteaefambkagpbaaW.PrintWords Go.Proofs.YteaefambkagpbaaW.PrintLast Go.Proofs.YteaefambkagpbaaW.PrintMore
attribute [local go_sem] max2_int min2_int max_two min_two max_three min_three max_four min_four   -- for this text's walks alone
set_option linter.unusedVariables false
set_option linter.unusedSimpArgs false

/-! ### link_cut: function 38 -/
def link_cut.l0 : Nat → ByteArray → List (S30) → Option ((List (S30)))
  | 0, _, _ => none
  | k + 1, x0, x3 => if (x0.size : Int) > 200 then (if 0 ≤ 200 then (if 200 ≤ (x0.size : Int) then (if x3.length < 2932031007402 then (link_cut.l0 k (x0.extract 200 x0.size) (x3 ++ [(⟨false, 0, false, x0.extract 0 200, 0⟩ : S30)])) else (none)) else (none)) else (none)) else (if x3.length < 2932031007402 then (some (x3 ++ [(⟨false, 0, true, x0, 0⟩ : S30)])) else (none))
def link_cut.f (k : Nat) (a0 : ByteArray) : Option ((List (S30))) := link_cut.l0 k a0 ([] : List (S30))
theorem link_cut.mono_l : ∀ k, (∀ y0 y1, LeO (link_cut.l0 k y0 y1) (link_cut.l0 (k + 1) y0 y1))
  | 0 => fun _ _ r h => by simp [link_cut.l0] at h
  | k + 1 => by
    have ih0 := link_cut.mono_l k
    · intro y0 y1
      unfold link_cut.l0
      repeat' first
      | (with_reducible exact ih0 _ _)
      | (with_reducible exact LeO.refl _)
      | (with_reducible exact LeO.none _)
      | (with_reducible refine LeO.ite ?_ ?_)
      | (with_reducible refine LeO.bind ?_ (fun _ => ?_))
      | exact ih0 _ _
      | exact LeO.none _
      | refine LeO.ite ?_ ?_
      | refine LeO.bind ?_ (fun _ => ?_)
theorem link_cut.mono : ∀ a0 k, LeO (link_cut.f k a0) (link_cut.f (k + 1) a0) := by
  intro a0 k
  have ih0 := link_cut.mono_l k
  unfold link_cut.f
  repeat' first
      | (with_reducible exact ih0 _ _)
      | (with_reducible exact LeO.refl _)
      | (with_reducible exact LeO.none _)
      | (with_reducible refine LeO.ite ?_ ?_)
      | (with_reducible refine LeO.bind ?_ (fun _ => ?_))
      | exact ih0 _ _
      | exact LeO.none _
      | refine LeO.ite ?_ ?_
      | refine LeO.bind ?_ (fun _ => ?_)
set_option maxHeartbeats 8000000 in
set_option maxRecDepth 100000 in
theorem link_cut.calls (k : Nat) (a0 : ByteArray) (r : List (S30)) (w : World) (h : link_cut.f k a0 = some r) :
    Calls Try.prog 38 #[.string a0] w fun e w' => ∃ v0_ : Value, e = .returned (v0_) ∧ Kd.R k30 30 w' w.heap.size (fun _ => True) v0_ r ∧ Below w.heap.size w w' := by
  have hu30 := Try.underlying30
  have HB := Aside0.mk (Below.refl w.heap.size w)
  have H : (link_cut.l0 k a0 ([] : List (S30))) = some r := h
  clear h
  have H' := Aside0.mk H
  clear H
  go_enter Try.func38, Try.ntmps38
  go_wp2
  go_loopg [0, 3] k (fun kq v0 v3 w' => ∃ (x0_1 : ByteArray) (x3_1 : List (S30)), v0 = .string x0_1 ∧ Aside0 (link_cut.l0 kq x0_1 x3_1 = some r) ∧ Aside0 (kq ≤ k) ∧ Aside0 (Kd.R k30 30 w' w.heap.size (fun _ => True) v3 x3_1) ∧ Aside0 (Below w.heap.size w w'))
  case atStart => exact ⟨(a0), (([] : List (S30))), (by first | rfl | (simp; done) | (simp [*]; done)), H', ⟨Nat.le_refl _⟩, ⟨by first | exact Kd.R_nil _ _ _ _ _ | exact Kd.N_nil _ _ _ _ _ | exact Kd.V_nil _ _ _ _ _ | exact Kd.Q_nil _ _ _ _ _ | exact Kd.S_nil _ _ _ _ _⟩, ⟨by repeat (first | (with_reducible first | exact HB.out | apply below_alloc | apply pw_below_drewN | apply below_drew1) | exact HB.out)⟩⟩
  case round =>
    clear H'
    obtain ⟨x0_1, x3_1, rfl, HA, HK1, HO_3, HB⟩ := hrel
    cases gk with
    | zero => exact absurd HA.out (by simp [link_cut.l0])
    | succ k1 =>
      have H := HA.out
      clear HA
      simp only [link_cut.l0] at H
      by_cases c2 : (x0_1.size : Int) > 200
      · rw [if_pos c2] at H
        have c2b0 : decide (200 < (x0_1.size : Int)) = true := decide_eq_true c2
        have c2b1 : decide (200 < x0_1.size) = true := decide_eq_true (by omega)
        clear c2
        by_cases c3 : 0 ≤ 200
        · rw [if_pos c3] at H
          have c3b0 := eq_true c3
          have c3b1 : decide (0 ≤ 200) = true := decide_eq_true c3
          clear c3
          by_cases c4 : 200 ≤ (x0_1.size : Int)
          · rw [if_pos c4] at H
            have c4b0 := eq_true c4
            have c4b1 : decide (200 ≤ (x0_1.size : Int)) = true := decide_eq_true c4
            clear c4
            by_cases c5 : x3_1.length < 2932031007402
            · rw [if_pos c5] at H
              have LMc5 := Aside0.mk c5
              clear c5
              obtain ⟨y102, hy102⟩ : ∃ y_ : List (S30), y_ = (x3_1 ++ [(⟨false, 0, false, x0_1.extract 0 200, 0⟩ : S30)]) := ⟨_, rfl⟩
              replace H : (link_cut.l0 k1 (x0_1.extract 200 x0_1.size) y102) = some r := by first | (rw [hy102]; with_reducible exact H) | (have H2_ := (Option.bind_some _ _).symm.trans H; rw [hy102]; with_reducible exact H2_) | (have H2_ := (Option.bind_some _ _).symm.trans H; with_reducible exact H2_) | with_reducible exact H | (rw [hy102]; exact H) | exact H
              have Ny102 := Aside0.mk hy102
              clear hy102
              have c6b0 := eq_true (of_decide_eq_true (by first | (with_reducible assumption) | assumption) : 200 ≤ (x0_1.size : Int))
              have H' := Aside0.mk H
              clear H
              go_wp2_with (first | ((with_reducible refine gate_builtin (b := .append) (xs := #[.tmp 7, .tmp 11]) rfl ?_); at_builtin; refine Kd.R_append k30 (w0 := w) w.heap.size rfl (.tmp 7) (.tmp 11) 53 30 (.agg #[(.bool false), (.int .i64 0), (.bool false), (.string ⟨#[]⟩), (.int .i64 0)]) 48 rfl Try.underlying53 info30 rfl (by decide) (by omega) u3 x3_1 (⟨false, 0, false, x0_1.extract 0 200, 0⟩ : S30) [.bool false, .int .i64 0, .bool false, .string (x0_1.extract 0 200), .int .i64 0] (fun _ => True) (fun _ => False) rfl rfl ?aP (fun _ hk => hk.elim) ?aF ?aO ?aB ?aS ?aL ?_; (case aP => exact k30_mkM _ _ _ (⟨false, 0, false, x0_1.extract 0 200, 0⟩ : S30)); (case aB => exact (by repeat (first | (with_reducible first | exact HB.out | apply below_alloc | apply pw_below_drewN | apply below_drew1) | exact HB.out))); (case aF => exact (fun _ _ => trivial)); (case aO => exact (by (with_reducible repeat (first | apply Kd.R_alloc | apply Kd.R_drewN | apply Kd.R_drew)); exact HO_3.out)); (case aS => exact (below_size (by repeat (first | (with_reducible first | exact HB.out | apply below_alloc | apply pw_below_drewN | apply below_drew1) | exact HB.out)))); (case aL => have := LMc5.out; omega); intro v103 w7 ho hb hg hat; rw [← Ny102.out] at ho; have n0_ := Aside0.mk (hb); have n1_ := Aside0.mk (ho); clear HB; clear HO_3; have HB := n0_; have HO104 := n1_; clear n0_ n1_; clear ho hb hg hat))
              go_roundg k1
              case measure => have := HK1.out; omega
              case rel => exact ⟨(x0_1.extract 200 x0_1.size), (y102), (by first | rfl | (simp; done) | (simp [*]; done)), H', ⟨by have := HK1.out; omega⟩, ⟨by (with_reducible repeat (first | apply Kd.R_alloc | apply Kd.R_drewN | apply Kd.R_drew)); exact HO104.out⟩, ⟨by repeat (first | (with_reducible first | exact HB.out | apply below_alloc | apply pw_below_drewN | apply below_drew1) | exact HB.out)⟩⟩
            · rw [if_neg c5] at H
              exact absurd H (by simp)
          · rw [if_neg c4] at H
            exact absurd H (by simp)
        · rw [if_neg c3] at H
          exact absurd H (by simp)
      · rw [if_neg c2] at H
        have c2b0 : decide (200 < (x0_1.size : Int)) = false := decide_eq_false c2
        have c2b1 : decide (200 < x0_1.size) = false := decide_eq_false (by omega)
        clear c2
        by_cases c8 : x3_1.length < 2932031007402
        · rw [if_pos c8] at H
          have LMc8 := Aside0.mk c8
          clear c8
          obtain ⟨y105, hy105⟩ : ∃ y_ : List (S30), y_ = (x3_1 ++ [(⟨false, 0, true, x0_1, 0⟩ : S30)]) := ⟨_, rfl⟩
          replace H : (some y105) = some r := by first | (rw [hy105]; with_reducible exact H) | (have H2_ := (Option.bind_some _ _).symm.trans H; rw [hy105]; with_reducible exact H2_) | (have H2_ := (Option.bind_some _ _).symm.trans H; with_reducible exact H2_) | with_reducible exact H | (rw [hy105]; exact H) | exact H
          have Ny105 := Aside0.mk hy105
          clear hy105
          obtain rfl := Option.some.inj H
          go_wp2_with (first | ((with_reducible refine gate_builtin (b := .append) (xs := #[.tmp 15, .tmp 18]) rfl ?_); at_builtin; refine Kd.R_append k30 (w0 := w) w.heap.size rfl (.tmp 15) (.tmp 18) 53 30 (.agg #[(.bool false), (.int .i64 0), (.bool false), (.string ⟨#[]⟩), (.int .i64 0)]) 48 rfl Try.underlying53 info30 rfl (by decide) (by omega) u3 x3_1 (⟨false, 0, true, x0_1, 0⟩ : S30) [.bool false, .int .i64 0, .bool true, .string x0_1, .int .i64 0] (fun _ => True) (fun _ => False) rfl rfl ?aP (fun _ hk => hk.elim) ?aF ?aO ?aB ?aS ?aL ?_; (case aP => exact k30_mkM _ _ _ (⟨false, 0, true, x0_1, 0⟩ : S30)); (case aB => exact (by repeat (first | (with_reducible first | exact HB.out | apply below_alloc | apply pw_below_drewN | apply below_drew1) | exact HB.out))); (case aF => exact (fun _ _ => trivial)); (case aO => exact (by (with_reducible repeat (first | apply Kd.R_alloc | apply Kd.R_drewN | apply Kd.R_drew)); exact HO_3.out)); (case aS => exact (below_size (by repeat (first | (with_reducible first | exact HB.out | apply below_alloc | apply pw_below_drewN | apply below_drew1) | exact HB.out)))); (case aL => have := LMc8.out; omega); intro v106 w9 ho hb hg hat; rw [← Ny105.out] at ho; have n0_ := Aside0.mk (hb); have n1_ := Aside0.mk (ho); clear HB; clear HO_3; have HB := n0_; have HO107 := n1_; clear n0_ n1_; clear ho hb hg hat))
          go_ret
          exact ⟨_, by first | rfl | (simp [errW_none, errW_some] <;> rfl) | (simp [*, errW_none, errW_some] <;> rfl), by (with_reducible repeat (first | apply Kd.R_alloc | apply Kd.R_drewN | apply Kd.R_drew)); exact HO107.out, by repeat (first | (with_reducible first | exact HB.out | apply below_alloc | apply pw_below_drewN | apply below_drew1) | exact HB.out)⟩
        · rw [if_neg c8] at H
          exact absurd H (by simp)

-- NOT PRINTED: function 22 (link_Sender_Put)

-- NOT PRINTED: function 24 (link_Sender_Due)

-- NOT PRINTED: function 25 (link_Sender_Wait)

-- NOT PRINTED: function 7 (strongroomlaw26_lives)

end Go.Proofs.Yteaefambkagpbaa.F

-- LnkS
namespace Go.Proofs.Yteaefambkagpbaa.F
open Go Go.RowKit Go.Proofs.YteaefambkagpbaaW.PrintWords Go.Proofs.YteaefambkagpbaaW.PrintLast Go.Proofs.YteaefambkagpbaaW.PrintMore Go.Proofs.YteaefambkagpbaaM Go.Proofs.YteaefambkagpbaaR
attribute [local go_sem] max2_int min2_int max_two min_two
set_option linter.unusedSimpArgs false
set_option linter.unusedVariables false
set_option maxRecDepth 100000
/-- the cells of parts on their way -/
def sdc1 (x : S86) : List Value := [.bool x.f0.f0, .int .i64 x.f0.f1, .bool x.f0.f2, .string x.f0.f3, .int .i64 x.f0.f4, .bool x.f1, .int .i64 x.f2, .bool x.f3]
def sdc (l : List S86) : List Value := l.flatMap sdc1
theorem sdc_snoc (l : List S86) (x : S86) : sdc (l ++ [x]) = sdc l ++ sdc1 x := by simp [sdc]
theorem sdc_length (l : List S86) : (sdc l).length = l.length * 8 := by
  induction l with
  | nil => rfl
  | cons x l ih => simp [sdc, sdc1] at *; omega
theorem sdc_at (l : List S86) : ∀ (i : Nat) (x : S86), l[i]? = some x → ∀ j, j < 8 → (sdc l)[i * 8 + j]? = (sdc1 x)[j]? := by
  induction l with
  | nil => intro i x h; simp at h
  | cons y l ih =>
    intro i x h j hj
    have e : sdc (y :: l) = sdc1 y ++ sdc l := by simp [sdc]
    rw [e]
    cases i with
    | zero =>
      obtain rfl : y = x := by simpa using h
      rw [Nat.zero_mul, Nat.zero_add, List.getElem?_append_left (by simp [sdc1]; omega)]
    | succ i =>
      rw [List.getElem?_append_right (by simp [sdc1]; omega)]
      have := ih i x (by simpa using h) j hj
      rw [← this]
      congr 1
      simp [sdc1]; omega
theorem sdc_drop (l : List S86) : ∀ m, (sdc l).drop (m * 8) = sdc (l.drop m) := by
  induction l with
  | nil => intro m; simp [sdc]
  | cons y l ih =>
    intro m
    have e : sdc (y :: l) = sdc1 y ++ sdc l := by simp [sdc]
    cases m with
    | zero => simp
    | succ m =>
      rw [e, show (m + 1) * 8 = 8 + m * 8 from by omega, ← List.drop_drop, show List.drop 8 (sdc1 y ++ sdc l) = sdc l from rfl, ih m]
      rfl
/-- the sender in memory -/
structure SndM (B g : Nat) (v : Value) (l : List S86) (first now : Int) (w : World) : Prop where
  cells : Blk w g 77 [v, .int .i64 first, .int .i64 now]
  row : RowO w B 86 8 v l.length (sdc l)
  hg : B ≤ g
/-- its blocks -/
def sndS (g : Nat) (v : Value) : Nat → Prop := fun k => k = g ∨ v.ownBlock = some k
theorem SndM.ne {B g : Nat} {v : Value} {l : List S86} {f n : Int} {w : World} (h : SndM B g v l f n w) : v.ownBlock ≠ some g := h.row.ne h.cells (by decide)
theorem SndM.far {B g : Nat} {v : Value} {l : List S86} {f n : Int} {w w' : World} {S : Nat → Prop} (h : SndM B g v l f n w) (hu : Upd S w w') (hn : ∀ k, sndS g v k → ¬ S k) : SndM B g v l f n w' :=
  ⟨h.cells.upd hu (hn g (.inl rfl)), h.row.upd hu fun k hk => hn k (.inr hk), h.hg⟩
theorem SndM.grew {B g : Nat} {v : Value} {l : List S86} {f n : Int} {w w' : World} (h : SndM B g v l f n w) (hu : Grew w w') : SndM B g v l f n w' :=
  ⟨h.cells.grew hu, h.row.grew hu, h.hg⟩
/-- a sender that was made by the call -/
def SndV (B : Nat) (l : List S86) (f n : Int) : World → Value → Prop := fun w v => ∃ g r, v = .pointer (some ⟨g, 0, none⟩) ∧ SndM B g r l f n w
theorem snew_c (w : World) : Calls Try.prog 17 #[] w (Tells w (SndV w.heap.size [] 0 0)) := by
  go_enter Try.func17, Try.ntmps17
  go_wp2_with fail
  go_ret
  exact ⟨_, rfl, ⟨_, _, rfl, ⟨Blk.new w 77 [.slice none 0 0, .int .i64 0, .int .i64 0], rowO_nil _ _ _ _, Nat.le_refl _⟩⟩, Grew.alloc _ _⟩
theorem wait_c (w : World) (B g : Nat) (v : Value) (l : List S86) (f n : Int) (h : SndM B g v l f n w) :
    Calls Try.prog 25 #[.pointer (some ⟨g, 0, none⟩)] w (Tells w (Is (.int .i64 (l.length : Int)))) := by
  obtain ⟨A, c, rfl, hc⟩ := h.row.slice
  have k0 := h.cells.at_ 0
  simp only [List.getElem?_cons_zero] at k0
  clear h
  obtain ⟨m, hm⟩ : ∃ m, m = l.length := ⟨_, rfl⟩
  rw [← hm] at k0 ⊢
  clear hm hc
  go_enter Try.func25, Try.ntmps25
  go_wp2_with fail
  go_ret
  exact ⟨_, rfl, rfl, Grew.refl w⟩
theorem done_c (w : World) (B g : Nat) (v : Value) (l : List S86) (f n : Int) (h : SndM B g v l f n w) :
    Calls Try.prog 20 #[.pointer (some ⟨g, 0, none⟩)] w (Tells w (Is (.bool (decide (l.length = 0))))) := by
  obtain ⟨A, c, rfl, hc⟩ := h.row.slice
  have k0 := h.cells.at_ 0
  simp only [List.getElem?_cons_zero] at k0
  clear h
  obtain ⟨m, hm⟩ : ∃ m, m = l.length := ⟨_, rfl⟩
  rw [← hm] at k0 ⊢
  clear hm hc
  obtain ⟨b, hb⟩ : ∃ b, decide (m = 0) = b := ⟨_, rfl⟩
  have hb2 : ((m : Int) == 0) = b := by rw [← hb, Bool.eq_iff_iff]; simp
  rw [hb]
  have HB := Lib.hid hb
  clear hb
  go_enter Try.func20, Try.ntmps20
  go_wp2_with fail
  go_ret
  exact ⟨_, rfl, rfl, Grew.refl w⟩
/-- a message's parts -/
def cutN : Nat → ByteArray → List S30
  | 0, m => [⟨false, 0, true, m, 0⟩]
  | k + 1, m => if 200 < m.size then ⟨false, 0, false, m.extract 0 200, 0⟩ :: cutN k (m.extract 200 m.size) else [⟨false, 0, true, m, 0⟩]
def cutP (m : ByteArray) : List S30 := cutN m.size m
theorem cut_l0 : ∀ (k : Nat) (m : ByteArray) (acc : List S30), m.size ≤ 200 * k + 200 → k + acc.length ≤ 1000000 → link_cut.l0 (k + 1) m acc = some (acc ++ cutN k m) := by
  intro k
  induction k with
  | zero =>
    intro m acc hm ha
    simp only [link_cut.l0, cutN]
    rw [if_neg (by omega), if_pos (by omega)]
  | succ k ih =>
    intro m acc hm ha
    simp only [cutN]
    by_cases h : 200 < m.size
    · rw [if_pos h, link_cut.l0, if_pos (by omega), if_pos (by omega), if_pos (by omega), if_pos (by omega)]
      rw [ih _ _ (by rw [ByteArray.size_extract]; omega) (by simp; omega)]
      simp
    · rw [if_neg h, link_cut.l0, if_neg (by omega), if_pos (by omega)]
theorem cut_f (m : ByteArray) (h : m.size ≤ 100000) : link_cut.f (m.size + 1) m = some (cutP m) := by
  unfold link_cut.f cutP
  rw [cut_l0 m.size m [] (by omega) (by simp; omega)]
  simp
theorem cut_c (m : ByteArray) (h : m.size ≤ 100000) (w : World) : Calls Try.prog 38 #[.string m] w (Tells w (fun w' v => ∃ A c, v = .slice A (cutP m).length c ∧ (cutP m).length ≤ c ∧ Kd.C k30 w' A (cutP m).length (cutP m))) :=
  (link_cut.calls _ m _ w (cut_f m h)).mono fun e w' ⟨v, he, hR, hb⟩ => ⟨v, he, Kd.R_reads hR, hb⟩
end Go.Proofs.Yteaefambkagpbaa.F
