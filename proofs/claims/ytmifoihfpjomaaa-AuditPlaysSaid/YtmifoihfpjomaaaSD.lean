/- Texts of this seat laid together: F22, F17, F32, F29, F40, F11, F16, F13, F9, AudM, MacL, Grp, AudC, AudD, RowO, RegB, AudE, AudG, AudH, AudS, AudL, AudO, AudF, AudR, AudP. -/
import Derived.Test.YtmifoihfpjomaaaSA
import Derived.Test.YtmifoihfpjomaaaSC
import Derived.Lib.Hide
import Derived.Test.YtmifoihfpjomaaaVEqStruct
import Derived.Maps.GroupsBeside
import Derived.Maps.Range
import Derived.Laws.MakeOwn
import Derived.Test.YtmifoihfpjomaaaSB

-- F22
namespace Go.Proofs.Ytmifoihfpjomaaa.F
open Go.RowKit Go.Proofs.YtmifoihfpjomaaaW.PrintWords Go.Proofs.YtmifoihfpjomaaaW.PrintLast Go.Proofs.YtmifoihfpjomaaaW.PrintMore
attribute [local go_sem] max2_int min2_int max_two min_two max_three min_three max_four min_four   -- for this text's walks alone
set_option linter.unusedVariables false
set_option linter.unusedSimpArgs false

/-! ### strongroomref13_Good: function 22 -/
def strongroomref13_Good.f (a0_0 : Int) (a0_1 : Int) (a0_2 : Int) (a0_3 : ByteArray) (a0_4 : Int) : Option (Bool) := if a0_0 < 1 then (some false) else (if a0_0 > 2147483648 then (some false) else (if a0_1 < 0 then (some false) else (if a0_1 > 1099511627776 then (some false) else (if a0_2 ≥ 0 then (if a0_2 ≤ 100 then (if (a0_3.size : Int) ≤ 32 then (if a0_4 ≥ 0 then (some (decide (a0_4 ≤ 100))) else (some false)) else (some false)) else (some false)) else (some false)))))
set_option maxHeartbeats 8000000 in
set_option maxRecDepth 100000 in
theorem strongroomref13_Good.calls (a0_0 : Int) (a0_1 : Int) (a0_2 : Int) (a0_3 : ByteArray) (a0_4 : Int) (r : Bool) (w : World) (h : strongroomref13_Good.f a0_0 a0_1 a0_2 a0_3 a0_4 = some r) :
    Calls Try.prog 22 #[.agg #[.int .i64 a0_0, .int .i64 a0_1, .int .i64 a0_2, .string a0_3, .int .i64 a0_4]] w fun e w' => e = .returned (.bool r) ∧ Below w.heap.size w w' := by
  have hu36 := Try.underlying36
  have HB := Aside0.mk (Below.refl w.heap.size w)
  have H : (if a0_0 < 1 then (some false) else (if a0_0 > 2147483648 then (some false) else (if a0_1 < 0 then (some false) else (if a0_1 > 1099511627776 then (some false) else (if a0_2 ≥ 0 then (if a0_2 ≤ 100 then (if (a0_3.size : Int) ≤ 32 then (if a0_4 ≥ 0 then (some (decide (a0_4 ≤ 100))) else (some false)) else (some false)) else (some false)) else (some false)))))) = some r := h
  clear h
  by_cases c2 : a0_0 < 1
  · rw [if_pos c2] at H
    have c2b0 : decide (a0_0 < 1) = true := decide_eq_true c2
    clear c2
    obtain rfl := Option.some.inj H
    go_enter Try.func22, Try.ntmps22
    go_wp2_with (first | ((with_reducible refine gate_dst (N := 1) rfl ?_); (try (refine gate_guard (by rfl) ?_; dsimp only)); refine box_event ?hg (N := 1) ?hd (cs := #[.int .i64 a0_0, .int .i64 a0_1, .int .i64 a0_2, .string a0_3, .int .i64 a0_4]) (t := 36) ?hr ?_; (case hd => rfl); (case hg => rfl); (case hr => first | (go_simp; done) | (go_simp; rfl)); intro gb257 hg w3 hbox hb; have n0_ := Aside0.mk (below_step (by repeat (first | (with_reducible first | exact HB.out | apply below_alloc | apply pw_below_drewN | apply below_drew1) | exact HB.out)) hb); have n1_ := Aside0.mk (hbox); have n2_ := Aside0.mk ((by rw [hg]; exact (below_size (by repeat (first | (with_reducible first | exact HB.out | apply below_alloc | apply pw_below_drewN | apply below_drew1) | exact HB.out))) : w.heap.size ≤ gb257)); have n3_ := Aside0.mk ((by rw [hg]; exact (below_size (by repeat (first | (with_reducible first | exact HB.out | apply below_alloc | apply pw_below_drewN | apply below_drew1) | exact HB.out))) : w.heap.size ≤ gb257)); clear HB; have HB := n0_; have BK257 := n1_; have GW257 := n2_; have GE257 := n3_; clear n0_ n1_ n2_ n3_; clear hb hbox hg; have hcz4_0 : w3.cell? ⟨gb257, 0, none⟩ = some (.int .i64 a0_0) := (blk_cell BK257.out 0).trans rfl; have hcz4_1 : w3.cell? ⟨gb257, 1, none⟩ = some (.int .i64 a0_1) := (blk_cell BK257.out 1).trans rfl; have hcz4_2 : w3.cell? ⟨gb257, 2, none⟩ = some (.int .i64 a0_2) := (blk_cell BK257.out 2).trans rfl; have hcz4_3 : w3.cell? ⟨gb257, 3, none⟩ = some (.string a0_3) := (blk_cell BK257.out 3).trans rfl; have hcz4_4 : w3.cell? ⟨gb257, 4, none⟩ = some (.int .i64 a0_4) := (blk_cell BK257.out 4).trans rfl; have hfz4_0 := blk_frozen BK257.out 0; have hfz4_1 := blk_frozen BK257.out 1; have hfz4_2 := blk_frozen BK257.out 2; have hfz4_3 := blk_frozen BK257.out 3; have hfz4_4 := blk_frozen BK257.out 4))
    go_ret
    exact ⟨by first | rfl | (simp [errW_none, errW_some] <;> rfl) | (simp [*, errW_none, errW_some] <;> rfl), by repeat (first | (with_reducible first | exact HB.out | apply below_alloc | apply pw_below_drewN | apply below_drew1 | refine below_set ?_ GE257.out) | exact HB.out)⟩
  · rw [if_neg c2] at H
    have c2b0 : decide (a0_0 < 1) = false := decide_eq_false c2
    clear c2
    by_cases c5 : a0_0 > 2147483648
    · rw [if_pos c5] at H
      have c5b0 : decide (2147483648 < a0_0) = true := decide_eq_true c5
      clear c5
      obtain rfl := Option.some.inj H
      go_enter Try.func22, Try.ntmps22
      go_wp2_with (first | ((with_reducible refine gate_dst (N := 1) rfl ?_); (try (refine gate_guard (by rfl) ?_; dsimp only)); refine box_event ?hg (N := 1) ?hd (cs := #[.int .i64 a0_0, .int .i64 a0_1, .int .i64 a0_2, .string a0_3, .int .i64 a0_4]) (t := 36) ?hr ?_; (case hd => rfl); (case hg => rfl); (case hr => first | (go_simp; done) | (go_simp; rfl)); intro gb257 hg w6 hbox hb; have n0_ := Aside0.mk (below_step (by repeat (first | (with_reducible first | exact HB.out | apply below_alloc | apply pw_below_drewN | apply below_drew1) | exact HB.out)) hb); have n1_ := Aside0.mk (hbox); have n2_ := Aside0.mk ((by rw [hg]; exact (below_size (by repeat (first | (with_reducible first | exact HB.out | apply below_alloc | apply pw_below_drewN | apply below_drew1) | exact HB.out))) : w.heap.size ≤ gb257)); have n3_ := Aside0.mk ((by rw [hg]; exact (below_size (by repeat (first | (with_reducible first | exact HB.out | apply below_alloc | apply pw_below_drewN | apply below_drew1) | exact HB.out))) : w.heap.size ≤ gb257)); clear HB; have HB := n0_; have BK257 := n1_; have GW257 := n2_; have GE257 := n3_; clear n0_ n1_ n2_ n3_; clear hb hbox hg; have hcz7_0 : w6.cell? ⟨gb257, 0, none⟩ = some (.int .i64 a0_0) := (blk_cell BK257.out 0).trans rfl; have hcz7_1 : w6.cell? ⟨gb257, 1, none⟩ = some (.int .i64 a0_1) := (blk_cell BK257.out 1).trans rfl; have hcz7_2 : w6.cell? ⟨gb257, 2, none⟩ = some (.int .i64 a0_2) := (blk_cell BK257.out 2).trans rfl; have hcz7_3 : w6.cell? ⟨gb257, 3, none⟩ = some (.string a0_3) := (blk_cell BK257.out 3).trans rfl; have hcz7_4 : w6.cell? ⟨gb257, 4, none⟩ = some (.int .i64 a0_4) := (blk_cell BK257.out 4).trans rfl; have hfz7_0 := blk_frozen BK257.out 0; have hfz7_1 := blk_frozen BK257.out 1; have hfz7_2 := blk_frozen BK257.out 2; have hfz7_3 := blk_frozen BK257.out 3; have hfz7_4 := blk_frozen BK257.out 4))
      go_ret
      exact ⟨by first | rfl | (simp [errW_none, errW_some] <;> rfl) | (simp [*, errW_none, errW_some] <;> rfl), by repeat (first | (with_reducible first | exact HB.out | apply below_alloc | apply pw_below_drewN | apply below_drew1 | refine below_set ?_ GE257.out) | exact HB.out)⟩
    · rw [if_neg c5] at H
      have c5b0 : decide (2147483648 < a0_0) = false := decide_eq_false c5
      clear c5
      by_cases c8 : a0_1 < 0
      · rw [if_pos c8] at H
        have c8b0 : decide (a0_1 < 0) = true := decide_eq_true c8
        clear c8
        obtain rfl := Option.some.inj H
        go_enter Try.func22, Try.ntmps22
        go_wp2_with (first | ((with_reducible refine gate_dst (N := 1) rfl ?_); (try (refine gate_guard (by rfl) ?_; dsimp only)); refine box_event ?hg (N := 1) ?hd (cs := #[.int .i64 a0_0, .int .i64 a0_1, .int .i64 a0_2, .string a0_3, .int .i64 a0_4]) (t := 36) ?hr ?_; (case hd => rfl); (case hg => rfl); (case hr => first | (go_simp; done) | (go_simp; rfl)); intro gb257 hg w9 hbox hb; have n0_ := Aside0.mk (below_step (by repeat (first | (with_reducible first | exact HB.out | apply below_alloc | apply pw_below_drewN | apply below_drew1) | exact HB.out)) hb); have n1_ := Aside0.mk (hbox); have n2_ := Aside0.mk ((by rw [hg]; exact (below_size (by repeat (first | (with_reducible first | exact HB.out | apply below_alloc | apply pw_below_drewN | apply below_drew1) | exact HB.out))) : w.heap.size ≤ gb257)); have n3_ := Aside0.mk ((by rw [hg]; exact (below_size (by repeat (first | (with_reducible first | exact HB.out | apply below_alloc | apply pw_below_drewN | apply below_drew1) | exact HB.out))) : w.heap.size ≤ gb257)); clear HB; have HB := n0_; have BK257 := n1_; have GW257 := n2_; have GE257 := n3_; clear n0_ n1_ n2_ n3_; clear hb hbox hg; have hcz10_0 : w9.cell? ⟨gb257, 0, none⟩ = some (.int .i64 a0_0) := (blk_cell BK257.out 0).trans rfl; have hcz10_1 : w9.cell? ⟨gb257, 1, none⟩ = some (.int .i64 a0_1) := (blk_cell BK257.out 1).trans rfl; have hcz10_2 : w9.cell? ⟨gb257, 2, none⟩ = some (.int .i64 a0_2) := (blk_cell BK257.out 2).trans rfl; have hcz10_3 : w9.cell? ⟨gb257, 3, none⟩ = some (.string a0_3) := (blk_cell BK257.out 3).trans rfl; have hcz10_4 : w9.cell? ⟨gb257, 4, none⟩ = some (.int .i64 a0_4) := (blk_cell BK257.out 4).trans rfl; have hfz10_0 := blk_frozen BK257.out 0; have hfz10_1 := blk_frozen BK257.out 1; have hfz10_2 := blk_frozen BK257.out 2; have hfz10_3 := blk_frozen BK257.out 3; have hfz10_4 := blk_frozen BK257.out 4))
        go_ret
        exact ⟨by first | rfl | (simp [errW_none, errW_some] <;> rfl) | (simp [*, errW_none, errW_some] <;> rfl), by repeat (first | (with_reducible first | exact HB.out | apply below_alloc | apply pw_below_drewN | apply below_drew1 | refine below_set ?_ GE257.out) | exact HB.out)⟩
      · rw [if_neg c8] at H
        have c8b0 : decide (a0_1 < 0) = false := decide_eq_false c8
        clear c8
        by_cases c11 : a0_1 > 1099511627776
        · rw [if_pos c11] at H
          have c11b0 : decide (1099511627776 < a0_1) = true := decide_eq_true c11
          clear c11
          obtain rfl := Option.some.inj H
          go_enter Try.func22, Try.ntmps22
          go_wp2_with (first | ((with_reducible refine gate_dst (N := 1) rfl ?_); (try (refine gate_guard (by rfl) ?_; dsimp only)); refine box_event ?hg (N := 1) ?hd (cs := #[.int .i64 a0_0, .int .i64 a0_1, .int .i64 a0_2, .string a0_3, .int .i64 a0_4]) (t := 36) ?hr ?_; (case hd => rfl); (case hg => rfl); (case hr => first | (go_simp; done) | (go_simp; rfl)); intro gb257 hg w12 hbox hb; have n0_ := Aside0.mk (below_step (by repeat (first | (with_reducible first | exact HB.out | apply below_alloc | apply pw_below_drewN | apply below_drew1) | exact HB.out)) hb); have n1_ := Aside0.mk (hbox); have n2_ := Aside0.mk ((by rw [hg]; exact (below_size (by repeat (first | (with_reducible first | exact HB.out | apply below_alloc | apply pw_below_drewN | apply below_drew1) | exact HB.out))) : w.heap.size ≤ gb257)); have n3_ := Aside0.mk ((by rw [hg]; exact (below_size (by repeat (first | (with_reducible first | exact HB.out | apply below_alloc | apply pw_below_drewN | apply below_drew1) | exact HB.out))) : w.heap.size ≤ gb257)); clear HB; have HB := n0_; have BK257 := n1_; have GW257 := n2_; have GE257 := n3_; clear n0_ n1_ n2_ n3_; clear hb hbox hg; have hcz13_0 : w12.cell? ⟨gb257, 0, none⟩ = some (.int .i64 a0_0) := (blk_cell BK257.out 0).trans rfl; have hcz13_1 : w12.cell? ⟨gb257, 1, none⟩ = some (.int .i64 a0_1) := (blk_cell BK257.out 1).trans rfl; have hcz13_2 : w12.cell? ⟨gb257, 2, none⟩ = some (.int .i64 a0_2) := (blk_cell BK257.out 2).trans rfl; have hcz13_3 : w12.cell? ⟨gb257, 3, none⟩ = some (.string a0_3) := (blk_cell BK257.out 3).trans rfl; have hcz13_4 : w12.cell? ⟨gb257, 4, none⟩ = some (.int .i64 a0_4) := (blk_cell BK257.out 4).trans rfl; have hfz13_0 := blk_frozen BK257.out 0; have hfz13_1 := blk_frozen BK257.out 1; have hfz13_2 := blk_frozen BK257.out 2; have hfz13_3 := blk_frozen BK257.out 3; have hfz13_4 := blk_frozen BK257.out 4))
          go_ret
          exact ⟨by first | rfl | (simp [errW_none, errW_some] <;> rfl) | (simp [*, errW_none, errW_some] <;> rfl), by repeat (first | (with_reducible first | exact HB.out | apply below_alloc | apply pw_below_drewN | apply below_drew1 | refine below_set ?_ GE257.out) | exact HB.out)⟩
        · rw [if_neg c11] at H
          have c11b0 : decide (1099511627776 < a0_1) = false := decide_eq_false c11
          clear c11
          by_cases c14 : a0_2 ≥ 0
          · rw [if_pos c14] at H
            have c14b0 : decide (0 ≤ a0_2) = true := decide_eq_true c14
            clear c14
            by_cases c15 : a0_2 ≤ 100
            · rw [if_pos c15] at H
              have c15b0 : decide (a0_2 ≤ 100) = true := decide_eq_true c15
              clear c15
              by_cases c16 : (a0_3.size : Int) ≤ 32
              · rw [if_pos c16] at H
                have c16b0 : decide ((a0_3.size : Int) ≤ 32) = true := decide_eq_true c16
                have c16b1 : decide (a0_3.size ≤ 32) = true := decide_eq_true (by omega)
                clear c16
                by_cases c17 : a0_4 ≥ 0
                · rw [if_pos c17] at H
                  have c17b0 : decide (0 ≤ a0_4) = true := decide_eq_true c17
                  clear c17
                  obtain rfl := Option.some.inj H
                  go_enter Try.func22, Try.ntmps22
                  go_wp2_with (first | ((with_reducible refine gate_dst (N := 1) rfl ?_); (try (refine gate_guard (by rfl) ?_; dsimp only)); refine box_event ?hg (N := 1) ?hd (cs := #[.int .i64 a0_0, .int .i64 a0_1, .int .i64 a0_2, .string a0_3, .int .i64 a0_4]) (t := 36) ?hr ?_; (case hd => rfl); (case hg => rfl); (case hr => first | (go_simp; done) | (go_simp; rfl)); intro gb257 hg w18 hbox hb; have n0_ := Aside0.mk (below_step (by repeat (first | (with_reducible first | exact HB.out | apply below_alloc | apply pw_below_drewN | apply below_drew1) | exact HB.out)) hb); have n1_ := Aside0.mk (hbox); have n2_ := Aside0.mk ((by rw [hg]; exact (below_size (by repeat (first | (with_reducible first | exact HB.out | apply below_alloc | apply pw_below_drewN | apply below_drew1) | exact HB.out))) : w.heap.size ≤ gb257)); have n3_ := Aside0.mk ((by rw [hg]; exact (below_size (by repeat (first | (with_reducible first | exact HB.out | apply below_alloc | apply pw_below_drewN | apply below_drew1) | exact HB.out))) : w.heap.size ≤ gb257)); clear HB; have HB := n0_; have BK257 := n1_; have GW257 := n2_; have GE257 := n3_; clear n0_ n1_ n2_ n3_; clear hb hbox hg; have hcz19_0 : w18.cell? ⟨gb257, 0, none⟩ = some (.int .i64 a0_0) := (blk_cell BK257.out 0).trans rfl; have hcz19_1 : w18.cell? ⟨gb257, 1, none⟩ = some (.int .i64 a0_1) := (blk_cell BK257.out 1).trans rfl; have hcz19_2 : w18.cell? ⟨gb257, 2, none⟩ = some (.int .i64 a0_2) := (blk_cell BK257.out 2).trans rfl; have hcz19_3 : w18.cell? ⟨gb257, 3, none⟩ = some (.string a0_3) := (blk_cell BK257.out 3).trans rfl; have hcz19_4 : w18.cell? ⟨gb257, 4, none⟩ = some (.int .i64 a0_4) := (blk_cell BK257.out 4).trans rfl; have hfz19_0 := blk_frozen BK257.out 0; have hfz19_1 := blk_frozen BK257.out 1; have hfz19_2 := blk_frozen BK257.out 2; have hfz19_3 := blk_frozen BK257.out 3; have hfz19_4 := blk_frozen BK257.out 4))
                  go_ret
                  exact ⟨by first | rfl | (simp [errW_none, errW_some] <;> rfl) | (simp [*, errW_none, errW_some] <;> rfl), by repeat (first | (with_reducible first | exact HB.out | apply below_alloc | apply pw_below_drewN | apply below_drew1 | refine below_set ?_ GE257.out) | exact HB.out)⟩
                · rw [if_neg c17] at H
                  have c17b0 : decide (0 ≤ a0_4) = false := decide_eq_false c17
                  clear c17
                  obtain rfl := Option.some.inj H
                  go_enter Try.func22, Try.ntmps22
                  go_wp2_with (first | ((with_reducible refine gate_dst (N := 1) rfl ?_); (try (refine gate_guard (by rfl) ?_; dsimp only)); refine box_event ?hg (N := 1) ?hd (cs := #[.int .i64 a0_0, .int .i64 a0_1, .int .i64 a0_2, .string a0_3, .int .i64 a0_4]) (t := 36) ?hr ?_; (case hd => rfl); (case hg => rfl); (case hr => first | (go_simp; done) | (go_simp; rfl)); intro gb257 hg w20 hbox hb; have n0_ := Aside0.mk (below_step (by repeat (first | (with_reducible first | exact HB.out | apply below_alloc | apply pw_below_drewN | apply below_drew1) | exact HB.out)) hb); have n1_ := Aside0.mk (hbox); have n2_ := Aside0.mk ((by rw [hg]; exact (below_size (by repeat (first | (with_reducible first | exact HB.out | apply below_alloc | apply pw_below_drewN | apply below_drew1) | exact HB.out))) : w.heap.size ≤ gb257)); have n3_ := Aside0.mk ((by rw [hg]; exact (below_size (by repeat (first | (with_reducible first | exact HB.out | apply below_alloc | apply pw_below_drewN | apply below_drew1) | exact HB.out))) : w.heap.size ≤ gb257)); clear HB; have HB := n0_; have BK257 := n1_; have GW257 := n2_; have GE257 := n3_; clear n0_ n1_ n2_ n3_; clear hb hbox hg; have hcz21_0 : w20.cell? ⟨gb257, 0, none⟩ = some (.int .i64 a0_0) := (blk_cell BK257.out 0).trans rfl; have hcz21_1 : w20.cell? ⟨gb257, 1, none⟩ = some (.int .i64 a0_1) := (blk_cell BK257.out 1).trans rfl; have hcz21_2 : w20.cell? ⟨gb257, 2, none⟩ = some (.int .i64 a0_2) := (blk_cell BK257.out 2).trans rfl; have hcz21_3 : w20.cell? ⟨gb257, 3, none⟩ = some (.string a0_3) := (blk_cell BK257.out 3).trans rfl; have hcz21_4 : w20.cell? ⟨gb257, 4, none⟩ = some (.int .i64 a0_4) := (blk_cell BK257.out 4).trans rfl; have hfz21_0 := blk_frozen BK257.out 0; have hfz21_1 := blk_frozen BK257.out 1; have hfz21_2 := blk_frozen BK257.out 2; have hfz21_3 := blk_frozen BK257.out 3; have hfz21_4 := blk_frozen BK257.out 4))
                  go_ret
                  exact ⟨by first | rfl | (simp [errW_none, errW_some] <;> rfl) | (simp [*, errW_none, errW_some] <;> rfl), by repeat (first | (with_reducible first | exact HB.out | apply below_alloc | apply pw_below_drewN | apply below_drew1 | refine below_set ?_ GE257.out) | exact HB.out)⟩
              · rw [if_neg c16] at H
                have c16b0 : decide ((a0_3.size : Int) ≤ 32) = false := decide_eq_false c16
                have c16b1 : decide (a0_3.size ≤ 32) = false := decide_eq_false (by omega)
                clear c16
                obtain rfl := Option.some.inj H
                go_enter Try.func22, Try.ntmps22
                go_wp2_with (first | ((with_reducible refine gate_dst (N := 1) rfl ?_); (try (refine gate_guard (by rfl) ?_; dsimp only)); refine box_event ?hg (N := 1) ?hd (cs := #[.int .i64 a0_0, .int .i64 a0_1, .int .i64 a0_2, .string a0_3, .int .i64 a0_4]) (t := 36) ?hr ?_; (case hd => rfl); (case hg => rfl); (case hr => first | (go_simp; done) | (go_simp; rfl)); intro gb257 hg w22 hbox hb; have n0_ := Aside0.mk (below_step (by repeat (first | (with_reducible first | exact HB.out | apply below_alloc | apply pw_below_drewN | apply below_drew1) | exact HB.out)) hb); have n1_ := Aside0.mk (hbox); have n2_ := Aside0.mk ((by rw [hg]; exact (below_size (by repeat (first | (with_reducible first | exact HB.out | apply below_alloc | apply pw_below_drewN | apply below_drew1) | exact HB.out))) : w.heap.size ≤ gb257)); have n3_ := Aside0.mk ((by rw [hg]; exact (below_size (by repeat (first | (with_reducible first | exact HB.out | apply below_alloc | apply pw_below_drewN | apply below_drew1) | exact HB.out))) : w.heap.size ≤ gb257)); clear HB; have HB := n0_; have BK257 := n1_; have GW257 := n2_; have GE257 := n3_; clear n0_ n1_ n2_ n3_; clear hb hbox hg; have hcz23_0 : w22.cell? ⟨gb257, 0, none⟩ = some (.int .i64 a0_0) := (blk_cell BK257.out 0).trans rfl; have hcz23_1 : w22.cell? ⟨gb257, 1, none⟩ = some (.int .i64 a0_1) := (blk_cell BK257.out 1).trans rfl; have hcz23_2 : w22.cell? ⟨gb257, 2, none⟩ = some (.int .i64 a0_2) := (blk_cell BK257.out 2).trans rfl; have hcz23_3 : w22.cell? ⟨gb257, 3, none⟩ = some (.string a0_3) := (blk_cell BK257.out 3).trans rfl; have hcz23_4 : w22.cell? ⟨gb257, 4, none⟩ = some (.int .i64 a0_4) := (blk_cell BK257.out 4).trans rfl; have hfz23_0 := blk_frozen BK257.out 0; have hfz23_1 := blk_frozen BK257.out 1; have hfz23_2 := blk_frozen BK257.out 2; have hfz23_3 := blk_frozen BK257.out 3; have hfz23_4 := blk_frozen BK257.out 4))
                go_ret
                exact ⟨by first | rfl | (simp [errW_none, errW_some] <;> rfl) | (simp [*, errW_none, errW_some] <;> rfl), by repeat (first | (with_reducible first | exact HB.out | apply below_alloc | apply pw_below_drewN | apply below_drew1 | refine below_set ?_ GE257.out) | exact HB.out)⟩
            · rw [if_neg c15] at H
              have c15b0 : decide (a0_2 ≤ 100) = false := decide_eq_false c15
              clear c15
              obtain rfl := Option.some.inj H
              go_enter Try.func22, Try.ntmps22
              go_wp2_with (first | ((with_reducible refine gate_dst (N := 1) rfl ?_); (try (refine gate_guard (by rfl) ?_; dsimp only)); refine box_event ?hg (N := 1) ?hd (cs := #[.int .i64 a0_0, .int .i64 a0_1, .int .i64 a0_2, .string a0_3, .int .i64 a0_4]) (t := 36) ?hr ?_; (case hd => rfl); (case hg => rfl); (case hr => first | (go_simp; done) | (go_simp; rfl)); intro gb257 hg w24 hbox hb; have n0_ := Aside0.mk (below_step (by repeat (first | (with_reducible first | exact HB.out | apply below_alloc | apply pw_below_drewN | apply below_drew1) | exact HB.out)) hb); have n1_ := Aside0.mk (hbox); have n2_ := Aside0.mk ((by rw [hg]; exact (below_size (by repeat (first | (with_reducible first | exact HB.out | apply below_alloc | apply pw_below_drewN | apply below_drew1) | exact HB.out))) : w.heap.size ≤ gb257)); have n3_ := Aside0.mk ((by rw [hg]; exact (below_size (by repeat (first | (with_reducible first | exact HB.out | apply below_alloc | apply pw_below_drewN | apply below_drew1) | exact HB.out))) : w.heap.size ≤ gb257)); clear HB; have HB := n0_; have BK257 := n1_; have GW257 := n2_; have GE257 := n3_; clear n0_ n1_ n2_ n3_; clear hb hbox hg; have hcz25_0 : w24.cell? ⟨gb257, 0, none⟩ = some (.int .i64 a0_0) := (blk_cell BK257.out 0).trans rfl; have hcz25_1 : w24.cell? ⟨gb257, 1, none⟩ = some (.int .i64 a0_1) := (blk_cell BK257.out 1).trans rfl; have hcz25_2 : w24.cell? ⟨gb257, 2, none⟩ = some (.int .i64 a0_2) := (blk_cell BK257.out 2).trans rfl; have hcz25_3 : w24.cell? ⟨gb257, 3, none⟩ = some (.string a0_3) := (blk_cell BK257.out 3).trans rfl; have hcz25_4 : w24.cell? ⟨gb257, 4, none⟩ = some (.int .i64 a0_4) := (blk_cell BK257.out 4).trans rfl; have hfz25_0 := blk_frozen BK257.out 0; have hfz25_1 := blk_frozen BK257.out 1; have hfz25_2 := blk_frozen BK257.out 2; have hfz25_3 := blk_frozen BK257.out 3; have hfz25_4 := blk_frozen BK257.out 4))
              go_ret
              exact ⟨by first | rfl | (simp [errW_none, errW_some] <;> rfl) | (simp [*, errW_none, errW_some] <;> rfl), by repeat (first | (with_reducible first | exact HB.out | apply below_alloc | apply pw_below_drewN | apply below_drew1 | refine below_set ?_ GE257.out) | exact HB.out)⟩
          · rw [if_neg c14] at H
            have c14b0 : decide (0 ≤ a0_2) = false := decide_eq_false c14
            clear c14
            obtain rfl := Option.some.inj H
            go_enter Try.func22, Try.ntmps22
            go_wp2_with (first | ((with_reducible refine gate_dst (N := 1) rfl ?_); (try (refine gate_guard (by rfl) ?_; dsimp only)); refine box_event ?hg (N := 1) ?hd (cs := #[.int .i64 a0_0, .int .i64 a0_1, .int .i64 a0_2, .string a0_3, .int .i64 a0_4]) (t := 36) ?hr ?_; (case hd => rfl); (case hg => rfl); (case hr => first | (go_simp; done) | (go_simp; rfl)); intro gb257 hg w26 hbox hb; have n0_ := Aside0.mk (below_step (by repeat (first | (with_reducible first | exact HB.out | apply below_alloc | apply pw_below_drewN | apply below_drew1) | exact HB.out)) hb); have n1_ := Aside0.mk (hbox); have n2_ := Aside0.mk ((by rw [hg]; exact (below_size (by repeat (first | (with_reducible first | exact HB.out | apply below_alloc | apply pw_below_drewN | apply below_drew1) | exact HB.out))) : w.heap.size ≤ gb257)); have n3_ := Aside0.mk ((by rw [hg]; exact (below_size (by repeat (first | (with_reducible first | exact HB.out | apply below_alloc | apply pw_below_drewN | apply below_drew1) | exact HB.out))) : w.heap.size ≤ gb257)); clear HB; have HB := n0_; have BK257 := n1_; have GW257 := n2_; have GE257 := n3_; clear n0_ n1_ n2_ n3_; clear hb hbox hg; have hcz27_0 : w26.cell? ⟨gb257, 0, none⟩ = some (.int .i64 a0_0) := (blk_cell BK257.out 0).trans rfl; have hcz27_1 : w26.cell? ⟨gb257, 1, none⟩ = some (.int .i64 a0_1) := (blk_cell BK257.out 1).trans rfl; have hcz27_2 : w26.cell? ⟨gb257, 2, none⟩ = some (.int .i64 a0_2) := (blk_cell BK257.out 2).trans rfl; have hcz27_3 : w26.cell? ⟨gb257, 3, none⟩ = some (.string a0_3) := (blk_cell BK257.out 3).trans rfl; have hcz27_4 : w26.cell? ⟨gb257, 4, none⟩ = some (.int .i64 a0_4) := (blk_cell BK257.out 4).trans rfl; have hfz27_0 := blk_frozen BK257.out 0; have hfz27_1 := blk_frozen BK257.out 1; have hfz27_2 := blk_frozen BK257.out 2; have hfz27_3 := blk_frozen BK257.out 3; have hfz27_4 := blk_frozen BK257.out 4))
            go_ret
            exact ⟨by first | rfl | (simp [errW_none, errW_some] <;> rfl) | (simp [*, errW_none, errW_some] <;> rfl), by repeat (first | (with_reducible first | exact HB.out | apply below_alloc | apply pw_below_drewN | apply below_drew1 | refine below_set ?_ GE257.out) | exact HB.out)⟩

end Go.Proofs.Ytmifoihfpjomaaa.F

-- F17
namespace Go.Proofs.Ytmifoihfpjomaaa.F
open Go.RowKit Go.Proofs.YtmifoihfpjomaaaW.PrintWords Go.Proofs.YtmifoihfpjomaaaW.PrintLast Go.Proofs.YtmifoihfpjomaaaW.PrintMore
attribute [local go_sem] max2_int min2_int max_two min_two max_three min_three max_four min_four   -- for this text's walks alone
set_option linter.unusedVariables false
set_option linter.unusedSimpArgs false

end Go.Proofs.Ytmifoihfpjomaaa.F

-- F32
namespace Go.Proofs.Ytmifoihfpjomaaa.F
open Go.RowKit Go.Proofs.YtmifoihfpjomaaaW.PrintWords Go.Proofs.YtmifoihfpjomaaaW.PrintLast Go.Proofs.YtmifoihfpjomaaaW.PrintMore
attribute [local go_sem] max2_int min2_int max_two min_two max_three min_three max_four min_four   -- for this text's walks alone
set_option linter.unusedVariables false
set_option linter.unusedSimpArgs false

/-! ### audit_bytes: function 32 -/
def audit_bytes.f (k : Nat) (a0_0 : Int) (a0_1 : Int) (a0_2 : Int) (a0_3 : ByteArray) (a0_4 : Int) : Option (ByteArray) := (num_Put.f k ([] : List Int) (IntKind.u64.wrap (a0_0))).bind fun t158 => ((num_Put.f k t158 (IntKind.u64.wrap (a0_1))).bind fun t161 => ((num_Put.f k t161 (IntKind.u64.wrap (a0_2))).bind fun t164 => ((num_PutText.f k t164 a0_3).bind fun t167 => ((num_Put.f k t167 (IntKind.u64.wrap (a0_4))).bind fun t170 => (some (strOfNums t170))))))
def audit_bytes.T1 : Bool × List (List Nat × List Nat) := (true, [([], []), ([0], [0]), ([1], [1]), ([2], [2]), ([], []), ([4], [4]), ([5], [5]), ([3, 6, 3], [3, 6]), ([], []), ([8], [8]), ([9], [9]), ([7, 10, 7], [7, 10]), ([11, 11, 0, 1, 2, 3, 4, 5, 6, 7, 8, 9, 10, 11], [11])])
def audit_bytes.B1 : List Nat := [0, 1, 3, 7, 0, 16, 48, 127, 0, 256, 768, 2047, 4095]
theorem audit_bytes.tab1 : rtab .any (opsOf Try.f32 1) = audit_bytes.T1 := by kernel_rfl
theorem audit_bytes.bits1 : waitsOk audit_bytes.T1.2 audit_bytes.B1 = true := by kernel_rfl
def audit_bytes.T2 : Bool × List (List Nat × List Nat) := (true, [([], []), ([], []), ([1], [1]), ([0, 2], [0, 2]), ([], []), ([4], [4]), ([5], [5]), ([3, 6, 3], [3, 6]), ([7], [7]), ([8, 7, 0, 1, 2, 3, 4, 5, 6, 7, 8], [8])])
def audit_bytes.B2 : List Nat := [0, 0, 2, 7, 0, 16, 48, 127, 255, 511]
theorem audit_bytes.tab2 : rtab .any (opsOf Try.f32 2) = audit_bytes.T2 := by kernel_rfl
theorem audit_bytes.bits2 : waitsOk audit_bytes.T2.2 audit_bytes.B2 = true := by kernel_rfl
set_option maxHeartbeats 8000000 in
set_option maxRecDepth 100000 in
theorem audit_bytes.calls (k : Nat) (a0_0 : Int) (a0_1 : Int) (a0_2 : Int) (a0_3 : ByteArray) (a0_4 : Int) (r : ByteArray) (w : World) (h : audit_bytes.f k a0_0 a0_1 a0_2 a0_3 a0_4 = some r) :
    Calls Try.prog 32 #[.agg #[.int .i64 a0_0, .int .i64 a0_1, .int .i64 a0_2, .string a0_3, .int .i64 a0_4]] w fun e w' => e = .returned (.string r) ∧ Below w.heap.size w w' := by
  have hu36 := Try.underlying36
  have HB := Aside0.mk (Below.refl w.heap.size w)
  have H : ((num_Put.f k ([] : List Int) (IntKind.u64.wrap (a0_0))).bind fun t158 => ((num_Put.f k t158 (IntKind.u64.wrap (a0_1))).bind fun t161 => ((num_Put.f k t161 (IntKind.u64.wrap (a0_2))).bind fun t164 => ((num_PutText.f k t164 a0_3).bind fun t167 => ((num_Put.f k t167 (IntKind.u64.wrap (a0_4))).bind fun t170 => (some (strOfNums t170))))))) = some r := h
  clear h
  replace H := Option.bind_eq_some_iff.mp H
  obtain ⟨t158, A20, H⟩ := H
  replace H : ((num_Put.f k t158 (IntKind.u64.wrap (a0_1))).bind fun t161 => ((num_Put.f k t161 (IntKind.u64.wrap (a0_2))).bind fun t164 => ((num_PutText.f k t164 a0_3).bind fun t167 => ((num_Put.f k t167 (IntKind.u64.wrap (a0_4))).bind fun t170 => (some (strOfNums t170)))))) = some r := H
  have A2 := Aside0.mk A20
  clear A20
  replace H := Option.bind_eq_some_iff.mp H
  obtain ⟨t161, A30, H⟩ := H
  replace H : ((num_Put.f k t161 (IntKind.u64.wrap (a0_2))).bind fun t164 => ((num_PutText.f k t164 a0_3).bind fun t167 => ((num_Put.f k t167 (IntKind.u64.wrap (a0_4))).bind fun t170 => (some (strOfNums t170))))) = some r := H
  have A3 := Aside0.mk A30
  clear A30
  replace H := Option.bind_eq_some_iff.mp H
  obtain ⟨t164, A40, H⟩ := H
  replace H : ((num_PutText.f k t164 a0_3).bind fun t167 => ((num_Put.f k t167 (IntKind.u64.wrap (a0_4))).bind fun t170 => (some (strOfNums t170)))) = some r := H
  have A4 := Aside0.mk A40
  clear A40
  replace H := Option.bind_eq_some_iff.mp H
  obtain ⟨t167, A50, H⟩ := H
  replace H : ((num_Put.f k t167 (IntKind.u64.wrap (a0_4))).bind fun t170 => (some (strOfNums t170))) = some r := H
  have A5 := Aside0.mk A50
  clear A50
  replace H := Option.bind_eq_some_iff.mp H
  obtain ⟨t170, A60, H⟩ := H
  replace H : (some (strOfNums t170)) = some r := H
  have A6 := Aside0.mk A60
  clear A60
  obtain rfl := Option.some.inj H
  go_enter Try.func32, Try.ntmps32
  try go_wp2_with (first | ((with_reducible refine gate_dst (N := 1) rfl ?_); refine box_event ?hg (N := 1) ?hd (cs := #[.int .i64 a0_0, .int .i64 a0_1, .int .i64 a0_2, .string a0_3, .int .i64 a0_4]) (t := 36) ?hr ?_; (case hd => rfl); (case hg => rfl); (case hr => first | (go_simp; done) | (go_simp; rfl)); intro gb157 hg w7 hbox hb; have n0_ := Aside0.mk (below_step (by repeat (first | (with_reducible first | exact HB.out | apply below_alloc | apply pw_below_drewN | apply below_drew1) | exact HB.out)) hb); have n1_ := Aside0.mk (hbox); have n2_ := Aside0.mk ((by rw [hg]; exact (below_size (by repeat (first | (with_reducible first | exact HB.out | apply below_alloc | apply pw_below_drewN | apply below_drew1) | exact HB.out))) : w.heap.size ≤ gb157)); have n3_ := Aside0.mk ((by rw [hg]; exact (below_size (by repeat (first | (with_reducible first | exact HB.out | apply below_alloc | apply pw_below_drewN | apply below_drew1) | exact HB.out))) : w.heap.size ≤ gb157)); clear HB; have HB := n0_; have BK157 := n1_; have GW157 := n2_; have GE157 := n3_; clear n0_ n1_ n2_ n3_; clear hb hbox hg))
  have n0_ := Aside0.mk (blk_drew BK157.out)
  have n1_ := Aside0.mk (below_drew1 HB.out)
  clear BK157
  clear HB
  have BK157 := n0_
  have HB := n1_
  clear n0_ n1_
  refine start_ (n := 13) (S := fun w' => w'.cell? ⟨gb157, 0, none⟩ = some (.int .i64 a0_0) ∧ w'.cell? ⟨gb157, 1, none⟩ = some (.int .i64 a0_1) ∧ w'.cell? ⟨gb157, 2, none⟩ = some (.int .i64 a0_2) ∧ w'.cell? ⟨gb157, 3, none⟩ = some (.string a0_3) ∧ w'.cell? ⟨gb157, 4, none⟩ = some (.int .i64 a0_4)) (ds := []) #[false, false, false, false, false, false, false, false, false, false, false, false, false] (by kernel_rfl) rfl rfl ⟨(blk_cell BK157.out 0).trans rfl, (blk_cell BK157.out 1).trans rfl, (blk_cell BK157.out 2).trans rfl, (blk_cell BK157.out 3).trans rfl, (blk_cell BK157.out 4).trans rfl⟩ (fun hHeld => ?_); refine with_tabW audit_bytes.tab1 audit_bytes.bits1 (fun HT_ HW_ => ?_)
  generalize w7.drew = w8 at BK157 HB hHeld ⊢
  refine pure_ (i := 0) (N := some 4) (v := ?_) (a' := ?_) #[true, false, false, false, false, false, false, false, false, false, false, false, false] rfl rfl (any_of HT_.out (by kernel_rfl)) (fun _ _ _ h => h) (Or.inl ⟨by rfl, ?_⟩) ?_ ?_
  rotate_left
  · intro w'
    go_simp
    with_reducible rfl
  rotate_left
  · simp only [Act.put, List.setIfInBounds_toArray, List.set_cons_zero, List.set_cons_succ, i64_w, i32_w]
    rfl
  refine pure_ (i := 4) (N := some 8) (v := ?_) (a' := ?_) #[true, false, false, false, true, false, false, false, false, false, false, false, false] rfl rfl (any_of HT_.out (by kernel_rfl)) (fun _ _ _ h => h) (Or.inl ⟨by rfl, ?_⟩) ?_ ?_
  rotate_left
  · intro w'
    go_simp
    with_reducible rfl
  rotate_left
  · simp only [Act.put, List.setIfInBounds_toArray, List.set_cons_zero, List.set_cons_succ, i64_w, i32_w]
    rfl
  refine pure_ (i := 8) (N := some 12) (v := ?_) (a' := ?_) #[true, false, false, false, true, false, false, false, true, false, false, false, false] rfl rfl (any_of HT_.out (by kernel_rfl)) (fun _ _ _ h => h) (Or.inl ⟨by rfl, ?_⟩) ?_ ?_
  rotate_left
  · intro w'
    go_simp
    with_reducible rfl
  rotate_left
  · simp only [Act.put, List.setIfInBounds_toArray, List.set_cons_zero, List.set_cons_succ, i64_w, i32_w]
    rfl
  refine take_ (i := 1) (N := some 5) (v := ?_) (a' := ?_) #[true, true, false, false, true, false, false, false, true, false, false, false, false] rfl rfl (take_ofW HT_.out HW_.out (by kernel_rfl)) (fun _ _ _ h => h) (Or.inl ⟨by rfl, ?_⟩) hHeld ?_ ?_
  rotate_left
  · rintro w' ⟨s0, s1, s2, s3, s4⟩
    go_simp
    with_reducible rfl
  rotate_left
  · simp only [Act.put, List.setIfInBounds_toArray, List.set_cons_zero, List.set_cons_succ, i64_w, i32_w]
    rfl
  refine pure_ (i := 2) (N := some 6) (v := ?_) (a' := ?_) #[true, true, true, false, true, false, false, false, true, false, false, false, false] rfl rfl (any_of HT_.out (by kernel_rfl)) (fun _ _ _ h => h) (Or.inl ⟨by rfl, ?_⟩) ?_ ?_
  rotate_left
  · intro w'
    go_simp
    with_reducible rfl
  rotate_left
  · simp only [Act.put, List.setIfInBounds_toArray, List.set_cons_zero, List.set_cons_succ, i64_w, i32_w]
    rfl
  refine take_ (i := 5) (N := some 9) (v := ?_) (a' := ?_) #[true, true, true, false, true, true, false, false, true, false, false, false, false] rfl rfl (take_ofW HT_.out HW_.out (by kernel_rfl)) (fun _ _ _ h => h) (Or.inl ⟨by rfl, ?_⟩) hHeld ?_ ?_
  rotate_left
  · rintro w' ⟨s0, s1, s2, s3, s4⟩
    go_simp
    with_reducible rfl
  rotate_left
  · simp only [Act.put, List.setIfInBounds_toArray, List.set_cons_zero, List.set_cons_succ, i64_w, i32_w]
    rfl
  refine pure_ (i := 6) (N := some 10) (v := ?_) (a' := ?_) #[true, true, true, false, true, true, true, false, true, false, false, false, false] rfl rfl (any_of HT_.out (by kernel_rfl)) (fun _ _ _ h => h) (Or.inl ⟨by rfl, ?_⟩) ?_ ?_
  rotate_left
  · intro w'
    go_simp
    with_reducible rfl
  rotate_left
  · simp only [Act.put, List.setIfInBounds_toArray, List.set_cons_zero, List.set_cons_succ, i64_w, i32_w]
    rfl
  refine take_ (i := 9) (N := some 13) (v := ?_) (a' := ?_) #[true, true, true, false, true, true, true, false, true, true, false, false, false] rfl rfl (take_ofW HT_.out HW_.out (by kernel_rfl)) (fun _ _ _ h => h) (Or.inl ⟨by rfl, ?_⟩) hHeld ?_ ?_
  rotate_left
  · rintro w' ⟨s0, s1, s2, s3, s4⟩
    go_simp
    with_reducible rfl
  rotate_left
  · simp only [Act.put, List.setIfInBounds_toArray, List.set_cons_zero, List.set_cons_succ, i64_w, i32_w]
    rfl
  refine pure_ (i := 10) (N := some 14) (v := ?_) (a' := ?_) #[true, true, true, false, true, true, true, false, true, true, true, false, false] rfl rfl (any_of HT_.out (by kernel_rfl)) (fun _ _ _ h => h) (Or.inl ⟨by rfl, ?_⟩) ?_ ?_
  rotate_left
  · intro w'
    go_simp
    with_reducible rfl
  rotate_left
  · simp only [Act.put, List.setIfInBounds_toArray, List.set_cons_zero, List.set_cons_succ, i64_w, i32_w]
    rfl
  refine one_ (i := 3) (N := some 7) #[true, true, true, true, true, true, true, false, true, true, true, false, false] rfl rfl (one_of HT_.out (by kernel_rfl)) (by decide) (fun K hK => ?_)
  refine goes_ Try.func46 (by kernel_rfl) rfl #[.slice none 0 0, .int .u64 (IntKind.u64.wrap (a0_0))] (by rfl) rfl rfl (by (try simp only [List.map_toArray, List.map_cons, List.map_nil]); first | done | rfl | (simp only [List.length_drop, List.length_take]; rfl)) ?_
  refine (num_Put.calls k _ _ ([] : List Int) (IntKind.u64.wrap (a0_0)) t158 _ ?side1 ?side2 A2.out).mono ?_
  (case side1 => exact Kd.C_nil _ _)
  (case side2 => exact Nat.le_refl _)
  rintro e w9 ⟨v159, rfl, ho0, hb⟩
  refine ⟨_, rfl, ?_⟩
  have n0_ := Aside0.mk (Kd.R_lower ho0 (below_size (by repeat (first | (with_reducible first | exact HB.out | apply below_alloc | apply pw_below_drewN | apply below_drew1 | refine below_set ?_ GE157.out) | exact HB.out))))
  have n1_ := Aside0.mk (blk_below (g := gb157) (o := .cells #[.int .i64 a0_0, .int .i64 a0_1, .int .i64 a0_2, .string a0_3, .int .i64 a0_4] 36 (0, 0)) (by (with_reducible repeat (first | refine blk_drewN ?_ _ | refine blk_drew ?_ | refine blk_alloc ?_ _)); exact BK157.out) hb)
  have n2_ := Aside0.mk (below_step (by repeat (first | (with_reducible first | exact HB.out | apply below_alloc | apply pw_below_drewN | apply below_drew1 | refine below_set ?_ GE157.out) | exact HB.out)) hb)
  clear BK157
  clear HB
  have HO160 := n0_
  have BK157 := n1_
  have HB := n2_
  clear n0_ n1_ n2_
  (try clear hb)
  (try clear hb2)
  (try clear hk)
  (try clear hi)
  (try clear ho0)
  obtain ⟨Ao10, co10, eo10⟩ := Kd.R_slice HO160.out
  (first | subst eo10 | (injection eo10 with f1_ f2_ f3_; have f4_ := f1_.symm; have f5_ := f3_.symm; clear f1_ f2_ f3_; subst f4_; subst f5_))
  refine hK.out _ _ ⟨(blk_cell BK157.out 0).trans rfl, (blk_cell BK157.out 1).trans rfl, (blk_cell BK157.out 2).trans rfl, (blk_cell BK157.out 3).trans rfl, (blk_cell BK157.out 4).trans rfl⟩ (fun hHeld => ?_)
  clear hK K
  refine norm_ (a' := ?_) ?_ ?_
  rotate_left
  · show Act.put _ (some 7) _ = _
    simp only [Act.put, List.setIfInBounds_toArray, List.set_cons_zero, List.set_cons_succ, i64_w, i32_w]
    rfl
  refine one_ (i := 7) (N := some 11) #[true, true, true, true, true, true, true, true, true, true, true, false, false] rfl rfl (one_of HT_.out (by kernel_rfl)) (by decide) (fun K hK => ?_)
  refine goes_ Try.func46 (by kernel_rfl) rfl #[.slice Ao10 t158.length co10, .int .u64 (IntKind.u64.wrap (a0_1))] (by rfl) rfl rfl (by (try simp only [List.map_toArray, List.map_cons, List.map_nil]); first | done | rfl | (simp only [List.length_drop, List.length_take]; rfl)) ?_
  with_reducible refine (num_Put.calls k _ _ t158 (IntKind.u64.wrap (a0_1)) t161 _ ?side1 ?side2 A3.out).mono ?_
  (case side1 => repeat (first | exact (Kd.R_reads' HO160.out).2.2 | (with_reducible refine Kd.C_alloc ?_ _) | (with_reducible refine Kd.C_drewN ?_ _) | (with_reducible refine Kd.C_drew ?_)))
  (case side2 => exact (Kd.R_reads' HO160.out).2.1)
  rintro e w11 ⟨v162, rfl, ho0, hb⟩
  refine ⟨_, rfl, ?_⟩
  have n0_ := Aside0.mk (Kd.R_elder' (by (with_reducible repeat (first | apply Kd.R_alloc | apply Kd.R_drewN | apply Kd.R_drew)); exact HO160.out) (Kd.R_base ho0) hb)
  have n1_ := Aside0.mk (Kd.R_lower (Kd.R_new' ho0 (Kd.R_lt (by (with_reducible repeat (first | apply Kd.R_alloc | apply Kd.R_drewN | apply Kd.R_drew)); exact HO160.out))) (below_size (by repeat (first | (with_reducible first | exact HB.out | apply below_alloc | apply pw_below_drewN | apply below_drew1 | refine below_set ?_ GE157.out) | exact HB.out))))
  have n2_ := Aside0.mk (blk_below (g := gb157) (o := .cells #[.int .i64 a0_0, .int .i64 a0_1, .int .i64 a0_2, .string a0_3, .int .i64 a0_4] 36 (0, 0)) (by (with_reducible repeat (first | refine blk_drewN ?_ _ | refine blk_drew ?_ | refine blk_alloc ?_ _)); exact BK157.out) hb)
  have n3_ := Aside0.mk (below_step (by repeat (first | (with_reducible first | exact HB.out | apply below_alloc | apply pw_below_drewN | apply below_drew1 | refine below_set ?_ GE157.out) | exact HB.out)) hb)
  clear HO160
  clear BK157
  clear HB
  have HO160 := n0_
  have HO163 := n1_
  have BK157 := n2_
  have HB := n3_
  clear n0_ n1_ n2_ n3_
  (try clear hb)
  (try clear hb2)
  (try clear hk)
  (try clear hi)
  (try clear ho0)
  obtain ⟨Ao12, co12, eo12⟩ := Kd.R_slice HO163.out
  (first | subst eo12 | (injection eo12 with f1_ f2_ f3_; have f4_ := f1_.symm; have f5_ := f3_.symm; clear f1_ f2_ f3_; subst f4_; subst f5_))
  refine hK.out _ _ ⟨(blk_cell BK157.out 0).trans rfl, (blk_cell BK157.out 1).trans rfl, (blk_cell BK157.out 2).trans rfl, (blk_cell BK157.out 3).trans rfl, (blk_cell BK157.out 4).trans rfl⟩ (fun hHeld => ?_)
  clear hK K
  refine norm_ (a' := ?_) ?_ ?_
  rotate_left
  · show Act.put _ (some 11) _ = _
    simp only [Act.put, List.setIfInBounds_toArray, List.set_cons_zero, List.set_cons_succ, i64_w, i32_w]
    rfl
  refine one_ (i := 11) (N := some 15) #[true, true, true, true, true, true, true, true, true, true, true, true, false] rfl rfl (one_of HT_.out (by kernel_rfl)) (by decide) (fun K hK => ?_)
  refine goes_ Try.func46 (by kernel_rfl) rfl #[.slice Ao12 t161.length co12, .int .u64 (IntKind.u64.wrap (a0_2))] (by rfl) rfl rfl (by (try simp only [List.map_toArray, List.map_cons, List.map_nil]); first | done | rfl | (simp only [List.length_drop, List.length_take]; rfl)) ?_
  with_reducible refine (num_Put.calls k _ _ t161 (IntKind.u64.wrap (a0_2)) t164 _ ?side1 ?side2 A4.out).mono ?_
  (case side1 => repeat (first | exact (Kd.R_reads' HO163.out).2.2 | (with_reducible refine Kd.C_alloc ?_ _) | (with_reducible refine Kd.C_drewN ?_ _) | (with_reducible refine Kd.C_drew ?_)))
  (case side2 => exact (Kd.R_reads' HO163.out).2.1)
  rintro e w13 ⟨v165, rfl, ho0, hb⟩
  refine ⟨_, rfl, ?_⟩
  have n0_ := Aside0.mk (Kd.R_elder' (by (with_reducible repeat (first | apply Kd.R_alloc | apply Kd.R_drewN | apply Kd.R_drew)); exact HO160.out) (Kd.R_base ho0) hb)
  have n1_ := Aside0.mk (Kd.R_elder' (by (with_reducible repeat (first | apply Kd.R_alloc | apply Kd.R_drewN | apply Kd.R_drew)); exact HO163.out) (Kd.R_base ho0) hb)
  have n2_ := Aside0.mk (Kd.R_lower (Kd.R_new' (Kd.R_new' ho0 (Kd.R_lt (by (with_reducible repeat (first | apply Kd.R_alloc | apply Kd.R_drewN | apply Kd.R_drew)); exact HO160.out))) (Kd.R_lt (by (with_reducible repeat (first | apply Kd.R_alloc | apply Kd.R_drewN | apply Kd.R_drew)); exact HO163.out))) (below_size (by repeat (first | (with_reducible first | exact HB.out | apply below_alloc | apply pw_below_drewN | apply below_drew1 | refine below_set ?_ GE157.out) | exact HB.out))))
  have n3_ := Aside0.mk (blk_below (g := gb157) (o := .cells #[.int .i64 a0_0, .int .i64 a0_1, .int .i64 a0_2, .string a0_3, .int .i64 a0_4] 36 (0, 0)) (by (with_reducible repeat (first | refine blk_drewN ?_ _ | refine blk_drew ?_ | refine blk_alloc ?_ _)); exact BK157.out) hb)
  have n4_ := Aside0.mk (below_step (by repeat (first | (with_reducible first | exact HB.out | apply below_alloc | apply pw_below_drewN | apply below_drew1 | refine below_set ?_ GE157.out) | exact HB.out)) hb)
  clear HO160
  clear HO163
  clear BK157
  clear HB
  have HO160 := n0_
  have HO163 := n1_
  have HO166 := n2_
  have BK157 := n3_
  have HB := n4_
  clear n0_ n1_ n2_ n3_ n4_
  (try clear hb)
  (try clear hb2)
  (try clear hk)
  (try clear hi)
  (try clear ho0)
  refine hK.out _ _ ⟨(blk_cell BK157.out 0).trans rfl, (blk_cell BK157.out 1).trans rfl, (blk_cell BK157.out 2).trans rfl, (blk_cell BK157.out 3).trans rfl, (blk_cell BK157.out 4).trans rfl⟩ (fun hHeld => ?_)
  clear hK K
  refine norm_ (a' := ?_) ?_ ?_
  rotate_left
  · show Act.put _ (some 15) _ = _
    simp only [Act.put, List.setIfInBounds_toArray, List.set_cons_zero, List.set_cons_succ, i64_w, i32_w]
    rfl
  refine pure_ (i := 12) (N := some 3) (v := ?_) (a' := ?_) #[true, true, true, true, true, true, true, true, true, true, true, true, true] rfl rfl (any_of HT_.out (by kernel_rfl)) (fun _ _ _ h => h) (Or.inl ⟨by rfl, ?_⟩) ?_ ?_
  rotate_left
  · intro w'
    go_simp
    with_reducible rfl
  rotate_left
  · simp only [Act.put, List.setIfInBounds_toArray, List.set_cons_zero, List.set_cons_succ, i64_w, i32_w]
    rfl
  refine done_ (done_of HT_.out (by kernel_rfl)) ?_
  try go_wp2
  have n0_ := Aside0.mk (Kd.R_drew HO160.out)
  have n1_ := Aside0.mk (Kd.R_drew HO163.out)
  have n2_ := Aside0.mk (Kd.R_drew HO166.out)
  have n3_ := Aside0.mk (blk_drew BK157.out)
  have n4_ := Aside0.mk (below_drew1 HB.out)
  clear HO160
  clear HO163
  clear HO166
  clear BK157
  clear HB
  have HO160 := n0_
  have HO163 := n1_
  have HO166 := n2_
  have BK157 := n3_
  have HB := n4_
  clear n0_ n1_ n2_ n3_ n4_
  obtain ⟨Ao15, co15, eo15⟩ := Kd.R_slice HO166.out
  (first | subst eo15 | (injection eo15 with f1_ f2_ f3_; have f4_ := f1_.symm; have f5_ := f3_.symm; clear f1_ f2_ f3_; subst f4_; subst f5_))
  refine start_ (n := 10) (S := fun w' => w'.cell? ⟨gb157, 0, none⟩ = some (.int .i64 a0_0) ∧ w'.cell? ⟨gb157, 1, none⟩ = some (.int .i64 a0_1) ∧ w'.cell? ⟨gb157, 2, none⟩ = some (.int .i64 a0_2) ∧ w'.cell? ⟨gb157, 3, none⟩ = some (.string a0_3) ∧ w'.cell? ⟨gb157, 4, none⟩ = some (.int .i64 a0_4)) (ds := []) #[false, false, false, false, false, false, false, false, false, false] (by kernel_rfl) rfl rfl ⟨(blk_cell BK157.out 0).trans rfl, (blk_cell BK157.out 1).trans rfl, (blk_cell BK157.out 2).trans rfl, (blk_cell BK157.out 3).trans rfl, (blk_cell BK157.out 4).trans rfl⟩ (fun hHeld => ?_); refine with_tabW audit_bytes.tab2 audit_bytes.bits2 (fun HT_ HW_ => ?_)
  generalize w13.drew = w14 at HO160 HO163 HO166 BK157 HB hHeld ⊢
  refine pure_ (i := 0) (N := some 16) (v := ?_) (a' := ?_) #[true, false, false, false, false, false, false, false, false, false] rfl rfl (any_of HT_.out (by kernel_rfl)) (fun _ _ _ h => h) (Or.inl ⟨by rfl, ?_⟩) ?_ ?_
  rotate_left
  · intro w'
    go_simp
    with_reducible rfl
  rotate_left
  · simp only [Act.put, List.setIfInBounds_toArray, List.set_cons_zero, List.set_cons_succ, i64_w, i32_w]
    rfl
  refine pure_ (i := 1) (N := some 17) (v := ?_) (a' := ?_) #[true, true, false, false, false, false, false, false, false, false] rfl rfl (any_of HT_.out (by kernel_rfl)) (fun _ _ _ h => h) (Or.inl ⟨by rfl, ?_⟩) ?_ ?_
  rotate_left
  · intro w'
    go_simp
    with_reducible rfl
  rotate_left
  · simp only [Act.put, List.setIfInBounds_toArray, List.set_cons_zero, List.set_cons_succ, i64_w, i32_w]
    rfl
  refine pure_ (i := 4) (N := some 20) (v := ?_) (a' := ?_) #[true, true, false, false, true, false, false, false, false, false] rfl rfl (any_of HT_.out (by kernel_rfl)) (fun _ _ _ h => h) (Or.inl ⟨by rfl, ?_⟩) ?_ ?_
  rotate_left
  · intro w'
    go_simp
    with_reducible rfl
  rotate_left
  · simp only [Act.put, List.setIfInBounds_toArray, List.set_cons_zero, List.set_cons_succ, i64_w, i32_w]
    rfl
  refine take_ (i := 2) (N := some 18) (v := ?_) (a' := ?_) #[true, true, true, false, true, false, false, false, false, false] rfl rfl (take_ofW HT_.out HW_.out (by kernel_rfl)) (fun _ _ _ h => h) (Or.inl ⟨by rfl, ?_⟩) hHeld ?_ ?_
  rotate_left
  · rintro w' ⟨s0, s1, s2, s3, s4⟩
    go_simp
    with_reducible rfl
  rotate_left
  · simp only [Act.put, List.setIfInBounds_toArray, List.set_cons_zero, List.set_cons_succ, i64_w, i32_w]
    rfl
  refine take_ (i := 5) (N := some 21) (v := ?_) (a' := ?_) #[true, true, true, false, true, true, false, false, false, false] rfl rfl (take_ofW HT_.out HW_.out (by kernel_rfl)) (fun _ _ _ h => h) (Or.inl ⟨by rfl, ?_⟩) hHeld ?_ ?_
  rotate_left
  · rintro w' ⟨s0, s1, s2, s3, s4⟩
    go_simp
    with_reducible rfl
  rotate_left
  · simp only [Act.put, List.setIfInBounds_toArray, List.set_cons_zero, List.set_cons_succ, i64_w, i32_w]
    rfl
  refine pure_ (i := 6) (N := some 22) (v := ?_) (a' := ?_) #[true, true, true, false, true, true, true, false, false, false] rfl rfl (any_of HT_.out (by kernel_rfl)) (fun _ _ _ h => h) (Or.inl ⟨by rfl, ?_⟩) ?_ ?_
  rotate_left
  · intro w'
    go_simp
    with_reducible rfl
  rotate_left
  · simp only [Act.put, List.setIfInBounds_toArray, List.set_cons_zero, List.set_cons_succ, i64_w, i32_w]
    rfl
  refine one_ (i := 3) (N := some 19) #[true, true, true, true, true, true, true, false, false, false] rfl rfl (one_of HT_.out (by kernel_rfl)) (by decide) (fun K hK => ?_)
  refine goes_ Try.func47 (by kernel_rfl) rfl #[.slice Ao15 t164.length co15, .string a0_3] (by rfl) rfl rfl (by (try simp only [List.map_toArray, List.map_cons, List.map_nil]); first | done | rfl | (simp only [List.length_drop, List.length_take]; rfl)) ?_
  with_reducible refine (num_PutText.calls k _ _ t164 a0_3 t167 _ ?side1 ?side2 A5.out).mono ?_
  (case side1 => repeat (first | exact (Kd.R_reads' HO166.out).2.2 | (with_reducible refine Kd.C_alloc ?_ _) | (with_reducible refine Kd.C_drewN ?_ _) | (with_reducible refine Kd.C_drew ?_)))
  (case side2 => exact (Kd.R_reads' HO166.out).2.1)
  rintro e w16 ⟨v168, rfl, ho0, hb⟩
  refine ⟨_, rfl, ?_⟩
  have n0_ := Aside0.mk (Kd.R_elder' (by (with_reducible repeat (first | apply Kd.R_alloc | apply Kd.R_drewN | apply Kd.R_drew)); exact HO160.out) (Kd.R_base ho0) hb)
  have n1_ := Aside0.mk (Kd.R_elder' (by (with_reducible repeat (first | apply Kd.R_alloc | apply Kd.R_drewN | apply Kd.R_drew)); exact HO163.out) (Kd.R_base ho0) hb)
  have n2_ := Aside0.mk (Kd.R_elder' (by (with_reducible repeat (first | apply Kd.R_alloc | apply Kd.R_drewN | apply Kd.R_drew)); exact HO166.out) (Kd.R_base ho0) hb)
  have n3_ := Aside0.mk (Kd.R_lower (Kd.R_new' (Kd.R_new' (Kd.R_new' ho0 (Kd.R_lt (by (with_reducible repeat (first | apply Kd.R_alloc | apply Kd.R_drewN | apply Kd.R_drew)); exact HO160.out))) (Kd.R_lt (by (with_reducible repeat (first | apply Kd.R_alloc | apply Kd.R_drewN | apply Kd.R_drew)); exact HO163.out))) (Kd.R_lt (by (with_reducible repeat (first | apply Kd.R_alloc | apply Kd.R_drewN | apply Kd.R_drew)); exact HO166.out))) (below_size (by repeat (first | (with_reducible first | exact HB.out | apply below_alloc | apply pw_below_drewN | apply below_drew1 | refine below_set ?_ GE157.out) | exact HB.out))))
  have n4_ := Aside0.mk (blk_below (g := gb157) (o := .cells #[.int .i64 a0_0, .int .i64 a0_1, .int .i64 a0_2, .string a0_3, .int .i64 a0_4] 36 (0, 0)) (by (with_reducible repeat (first | refine blk_drewN ?_ _ | refine blk_drew ?_ | refine blk_alloc ?_ _)); exact BK157.out) hb)
  have n5_ := Aside0.mk (below_step (by repeat (first | (with_reducible first | exact HB.out | apply below_alloc | apply pw_below_drewN | apply below_drew1 | refine below_set ?_ GE157.out) | exact HB.out)) hb)
  clear HO160
  clear HO163
  clear HO166
  clear BK157
  clear HB
  have HO160 := n0_
  have HO163 := n1_
  have HO166 := n2_
  have HO169 := n3_
  have BK157 := n4_
  have HB := n5_
  clear n0_ n1_ n2_ n3_ n4_ n5_
  (try clear hb)
  (try clear hb2)
  (try clear hk)
  (try clear hi)
  (try clear ho0)
  obtain ⟨Ao17, co17, eo17⟩ := Kd.R_slice HO169.out
  (first | subst eo17 | (injection eo17 with f1_ f2_ f3_; have f4_ := f1_.symm; have f5_ := f3_.symm; clear f1_ f2_ f3_; subst f4_; subst f5_))
  refine hK.out _ _ ⟨(blk_cell BK157.out 0).trans rfl, (blk_cell BK157.out 1).trans rfl, (blk_cell BK157.out 2).trans rfl, (blk_cell BK157.out 3).trans rfl, (blk_cell BK157.out 4).trans rfl⟩ (fun hHeld => ?_)
  clear hK K
  refine norm_ (a' := ?_) ?_ ?_
  rotate_left
  · show Act.put _ (some 19) _ = _
    simp only [Act.put, List.setIfInBounds_toArray, List.set_cons_zero, List.set_cons_succ, i64_w, i32_w]
    rfl
  refine one_ (i := 7) (N := some 23) #[true, true, true, true, true, true, true, true, false, false] rfl rfl (one_of HT_.out (by kernel_rfl)) (by decide) (fun K hK => ?_)
  refine goes_ Try.func46 (by kernel_rfl) rfl #[.slice Ao17 t167.length co17, .int .u64 (IntKind.u64.wrap (a0_4))] (by rfl) rfl rfl (by (try simp only [List.map_toArray, List.map_cons, List.map_nil]); first | done | rfl | (simp only [List.length_drop, List.length_take]; rfl)) ?_
  with_reducible refine (num_Put.calls k _ _ t167 (IntKind.u64.wrap (a0_4)) t170 _ ?side1 ?side2 A6.out).mono ?_
  (case side1 => repeat (first | exact (Kd.R_reads' HO169.out).2.2 | (with_reducible refine Kd.C_alloc ?_ _) | (with_reducible refine Kd.C_drewN ?_ _) | (with_reducible refine Kd.C_drew ?_)))
  (case side2 => exact (Kd.R_reads' HO169.out).2.1)
  rintro e w18 ⟨v171, rfl, ho0, hb⟩
  refine ⟨_, rfl, ?_⟩
  have n0_ := Aside0.mk (Kd.R_elder' (by (with_reducible repeat (first | apply Kd.R_alloc | apply Kd.R_drewN | apply Kd.R_drew)); exact HO160.out) (Kd.R_base ho0) hb)
  have n1_ := Aside0.mk (Kd.R_elder' (by (with_reducible repeat (first | apply Kd.R_alloc | apply Kd.R_drewN | apply Kd.R_drew)); exact HO163.out) (Kd.R_base ho0) hb)
  have n2_ := Aside0.mk (Kd.R_elder' (by (with_reducible repeat (first | apply Kd.R_alloc | apply Kd.R_drewN | apply Kd.R_drew)); exact HO166.out) (Kd.R_base ho0) hb)
  have n3_ := Aside0.mk (Kd.R_elder' (by (with_reducible repeat (first | apply Kd.R_alloc | apply Kd.R_drewN | apply Kd.R_drew)); exact HO169.out) (Kd.R_base ho0) hb)
  have n4_ := Aside0.mk (Kd.R_lower (Kd.R_new' (Kd.R_new' (Kd.R_new' (Kd.R_new' ho0 (Kd.R_lt (by (with_reducible repeat (first | apply Kd.R_alloc | apply Kd.R_drewN | apply Kd.R_drew)); exact HO160.out))) (Kd.R_lt (by (with_reducible repeat (first | apply Kd.R_alloc | apply Kd.R_drewN | apply Kd.R_drew)); exact HO163.out))) (Kd.R_lt (by (with_reducible repeat (first | apply Kd.R_alloc | apply Kd.R_drewN | apply Kd.R_drew)); exact HO166.out))) (Kd.R_lt (by (with_reducible repeat (first | apply Kd.R_alloc | apply Kd.R_drewN | apply Kd.R_drew)); exact HO169.out))) (below_size (by repeat (first | (with_reducible first | exact HB.out | apply below_alloc | apply pw_below_drewN | apply below_drew1 | refine below_set ?_ GE157.out) | exact HB.out))))
  have n5_ := Aside0.mk (blk_below (g := gb157) (o := .cells #[.int .i64 a0_0, .int .i64 a0_1, .int .i64 a0_2, .string a0_3, .int .i64 a0_4] 36 (0, 0)) (by (with_reducible repeat (first | refine blk_drewN ?_ _ | refine blk_drew ?_ | refine blk_alloc ?_ _)); exact BK157.out) hb)
  have n6_ := Aside0.mk (below_step (by repeat (first | (with_reducible first | exact HB.out | apply below_alloc | apply pw_below_drewN | apply below_drew1 | refine below_set ?_ GE157.out) | exact HB.out)) hb)
  clear HO160
  clear HO163
  clear HO166
  clear HO169
  clear BK157
  clear HB
  have HO160 := n0_
  have HO163 := n1_
  have HO166 := n2_
  have HO169 := n3_
  have HO172 := n4_
  have BK157 := n5_
  have HB := n6_
  clear n0_ n1_ n2_ n3_ n4_ n5_ n6_
  (try clear hb)
  (try clear hb2)
  (try clear hk)
  (try clear hi)
  (try clear ho0)
  refine hK.out _ _ ⟨(blk_cell BK157.out 0).trans rfl, (blk_cell BK157.out 1).trans rfl, (blk_cell BK157.out 2).trans rfl, (blk_cell BK157.out 3).trans rfl, (blk_cell BK157.out 4).trans rfl⟩ (fun hHeld => ?_)
  clear hK K
  refine norm_ (a' := ?_) ?_ ?_
  rotate_left
  · show Act.put _ (some 23) _ = _
    simp only [Act.put, List.setIfInBounds_toArray, List.set_cons_zero, List.set_cons_succ, i64_w, i32_w]
    rfl
  refine one_ (i := 8) (N := some 24) #[true, true, true, true, true, true, true, true, true, false] rfl rfl (one_of HT_.out (by kernel_rfl)) (by decide) (fun K hK => ?_)
  have hcv19 := own_string (P := Try.prog) Try.underlying45 Try.underlying5 Try.underlying9 (Kd.own_of_R HO172.out)
  refine value_ (w1 := ?_) (v := ?_) (by rfl) rfl ?_ ?_
  rotate_left 2
  · go_simp
    constructor
    · rfl
    · rfl
  clear hcv19
  refine hK.out _ _ ⟨(blk_cell BK157.out 0).trans rfl, (blk_cell BK157.out 1).trans rfl, (blk_cell BK157.out 2).trans rfl, (blk_cell BK157.out 3).trans rfl, (blk_cell BK157.out 4).trans rfl⟩ (fun hHeld => ?_)
  clear hK K
  refine norm_ (a' := ?_) ?_ ?_
  rotate_left
  · show Act.put _ (some 24) _ = _
    simp only [Act.put, List.setIfInBounds_toArray, List.set_cons_zero, List.set_cons_succ, i64_w, i32_w]
    rfl
  refine pure_ (i := 9) (N := some 2) (v := ?_) (a' := ?_) #[true, true, true, true, true, true, true, true, true, true] rfl rfl (any_of HT_.out (by kernel_rfl)) (fun _ _ _ h => h) (Or.inl ⟨by rfl, ?_⟩) ?_ ?_
  rotate_left
  · intro w'
    go_simp
    with_reducible rfl
  rotate_left
  · simp only [Act.put, List.setIfInBounds_toArray, List.set_cons_zero, List.set_cons_succ, i64_w, i32_w]
    rfl
  refine done_ (done_of HT_.out (by kernel_rfl)) ?_
  try go_wp2
  go_ret
  exact ⟨by first | rfl | (simp [errW_none, errW_some] <;> rfl) | (simp [*, errW_none, errW_some] <;> rfl), by repeat (first | (with_reducible first | exact HB.out | apply below_alloc | apply pw_below_drewN | apply below_drew1 | refine below_set ?_ GE157.out) | exact HB.out)⟩

-- NOT PRINTED: function 18 (audit_Add)

-- NOT PRINTED: function 33 (audit_chain)

-- NOT PRINTED: function 20 (audit_Digest)

end Go.Proofs.Ytmifoihfpjomaaa.F

-- F29
namespace Go.Proofs.Ytmifoihfpjomaaa.F
open Go.RowKit Go.Proofs.YtmifoihfpjomaaaW.PrintWords Go.Proofs.YtmifoihfpjomaaaW.PrintLast Go.Proofs.YtmifoihfpjomaaaW.PrintMore
attribute [local go_sem] max2_int min2_int max_two min_two max_three min_three max_four min_four   -- for this text's walks alone
set_option linter.unusedVariables false
set_option linter.unusedSimpArgs false

end Go.Proofs.Ytmifoihfpjomaaa.F

-- F40
namespace Go.Proofs.Ytmifoihfpjomaaa.F
open Go.RowKit Go.Proofs.YtmifoihfpjomaaaW.PrintWords Go.Proofs.YtmifoihfpjomaaaW.PrintLast Go.Proofs.YtmifoihfpjomaaaW.PrintMore Go Go.Proofs.YtmifoihfpjomaaaR
attribute [local go_sem] max2_int min2_int max_two min_two max_three min_three max_four min_four   -- for this text's walks alone
set_option linter.unusedVariables false
set_option linter.unusedSimpArgs false

end Go.Proofs.Ytmifoihfpjomaaa.F

-- F11
namespace Go.Proofs.Ytmifoihfpjomaaa.F
open Go.RowKit Go.Proofs.YtmifoihfpjomaaaW.PrintWords Go.Proofs.YtmifoihfpjomaaaW.PrintLast Go.Proofs.YtmifoihfpjomaaaW.PrintMore
attribute [local go_sem] max2_int min2_int max_two min_two max_three min_three max_four min_four   -- for this text's walks alone
set_option linter.unusedVariables false
set_option linter.unusedSimpArgs false

/-! ### audit_New: function 11 -/
def audit_New.f  : Option (ByteArray × Int × (List (S36))) := if 32 ≤ 281474976710656 then (some (strOfNums (List.replicate 32 0), 0, ([] : List (S36)))) else (none)
set_option maxHeartbeats 8000000 in
set_option maxRecDepth 100000 in
theorem audit_New.calls  (r1 : ByteArray) (r2 : Int) (r3 : List (S36)) (w : World) (h : audit_New.f  = some (r1, r2, r3)) :
    Calls Try.prog 11 #[] w fun e w' => ∃ v2_ : Value, e = .returned (.agg #[.string r1, .int .i64 r2, v2_]) ∧ Kd.R k36 36 w' w.heap.size (fun _ => True) v2_ r3 ∧ Below w.heap.size w w' := by
  have hu27 := Try.underlying27
  have HB := Aside0.mk (Below.refl w.heap.size w)
  have H : (if 32 ≤ 281474976710656 then (some (strOfNums (List.replicate 32 0), 0, ([] : List (S36)))) else (none)) = some (r1, r2, r3) := h
  clear h
  by_cases c1 : 32 ≤ 281474976710656
  · rw [if_pos c1] at H
    have c1b0 := eq_true c1
    have c1b1 : decide (32 ≤ 281474976710656) = true := decide_eq_true c1
    clear c1
    obtain ⟨y104, hy104⟩ : ∃ y_ : List Int, y_ = (List.replicate 32 0) := ⟨_, rfl⟩
    replace H : (some (strOfNums y104, 0, ([] : List (S36)))) = some (r1, r2, r3) := by first | (rw [hy104]; with_reducible exact H) | (have H2_ := (Option.bind_some _ _).symm.trans H; rw [hy104]; with_reducible exact H2_) | (have H2_ := (Option.bind_some _ _).symm.trans H; with_reducible exact H2_) | with_reducible exact H | (rw [hy104]; exact H) | exact H
    have Ny104 := Aside0.mk hy104
    clear hy104
    simp only [Option.some.injEq, Prod.mk.injEq] at H
    obtain ⟨rfl, rfl, rfl⟩ := H
    go_enter Try.func11, Try.ntmps11
    go_wp2_with (first | ((with_reducible refine gate_dst (N := 0) rfl ?_); refine box_event ?hg (N := 0) ?hd (cs := #[.string (⟨#[]⟩ : ByteArray), .int .i64 0, .slice none 0 0]) (t := 27) ?hr ?_; (case hd => rfl); (case hg => rfl); (case hr => first | (go_simp; done) | (go_simp; rfl)); intro gb103 hg w2 hbox hb; have n0_ := Aside0.mk (below_step (by repeat (first | (with_reducible first | exact HB.out | apply below_alloc | apply pw_below_drewN | apply below_drew1) | exact HB.out)) hb); have n1_ := Aside0.mk (hbox); have n2_ := Aside0.mk ((by rw [hg]; exact (below_size (by repeat (first | (with_reducible first | exact HB.out | apply below_alloc | apply pw_below_drewN | apply below_drew1) | exact HB.out))) : w.heap.size ≤ gb103)); have n3_ := Aside0.mk ((by rw [hg]; exact (below_size (by repeat (first | (with_reducible first | exact HB.out | apply below_alloc | apply pw_below_drewN | apply below_drew1) | exact HB.out))) : w.heap.size ≤ gb103)); clear HB; have HB := n0_; have BK103 := n1_; have GW103 := n2_; have GE103 := n3_; clear n0_ n1_ n2_ n3_; clear hb hbox hg) | ((with_reducible refine gate_dst (N := 1) rfl ?_); refine Kd.R_make (Kd.int .u8) _ 5 rfl (N := 1) rfl 45 _ _ rfl 32 rfl rfl Try.underlying45 (.int .u8 0) 1 info5 rfl (by decide) (by omega) 0 (ok := fun _ => True) (okp := fun _ => True) rfl (fun _ hk => hk) trivial (by omega) (by omega) (Below.refl _ _) (Nat.le_refl _) ?_; intro v105 w3 ho4 hb hg_ hnew_; clear hg_ hnew_; (first | rw [← Ny104.out] at ho4 | (simp only [Int.reduceToNat] at ho4; rw [← Ny104.out] at ho4)); have n0_ := Aside0.mk (Kd.R_lower ho4 (below_size (by repeat (first | (with_reducible first | exact HB.out | apply below_alloc | apply pw_below_drewN | apply below_drew1 | refine below_set ?_ GE103.out) | exact HB.out)))); have n1_ := Aside0.mk (blk_below (g := gb103) (o := .cells #[.string (⟨#[]⟩ : ByteArray), .int .i64 0, .slice none 0 0] 27 (0, 0)) (by (with_reducible repeat (first | refine blk_drewN ?_ _ | refine blk_drew ?_ | refine blk_alloc ?_ _)); exact BK103.out) hb); have n2_ := Aside0.mk (below_step (by repeat (first | (with_reducible first | exact HB.out | apply below_alloc | apply pw_below_drewN | apply below_drew1 | refine below_set ?_ GE103.out) | exact HB.out)) hb); clear BK103; clear HB; have HO106 := n0_; have BK103 := n1_; have HB := n2_; clear n0_ n1_ n2_; clear hb ho4; have hcv5 := own_string (P := Try.prog) Try.underlying45 Try.underlying5 Try.underlying9 (Kd.own_of_R HO106.out); have hcz6_0 : w3.cell? ⟨gb103, 0, none⟩ = some (.string (⟨#[]⟩ : ByteArray)) := (blk_cell BK103.out 0).trans rfl; have hcz6_1 : w3.cell? ⟨gb103, 1, none⟩ = some (.int .i64 0) := (blk_cell BK103.out 1).trans rfl; have hcz6_2 : w3.cell? ⟨gb103, 2, none⟩ = some (.slice none 0 0) := (blk_cell BK103.out 2).trans rfl; have hfz6_0 := blk_frozen BK103.out 0; have hfz6_1 := blk_frozen BK103.out 1; have hfz6_2 := blk_frozen BK103.out 2))
    refine bodyPost_ret (results_cell_row rfl _ _ gb103 27 #[.string (strOfNums y104), .int .i64 0, .slice none 0 0] (0, 0) _ rfl (by (with_reducible repeat (first | refine blk_drewN ?_ _ | refine blk_drew ?_ | refine blk_alloc ?_ _)); refine blk_put (cs := #[.string (strOfNums y104), .int .i64 0, .slice none 0 0]) ?_ 2 _ rfl; (with_reducible repeat (first | refine blk_drewN ?_ _ | refine blk_drew ?_ | refine blk_alloc ?_ _)); refine blk_put (cs := #[.string (strOfNums y104), .int .i64 0, .slice none 0 0]) ?_ 1 _ rfl; (with_reducible repeat (first | refine blk_drewN ?_ _ | refine blk_drew ?_ | refine blk_alloc ?_ _)); refine blk_put (cs := #[.string (⟨#[]⟩ : ByteArray), .int .i64 0, .slice none 0 0]) ?_ 0 _ rfl; (with_reducible repeat (first | refine blk_drewN ?_ _ | refine blk_drew ?_ | refine blk_alloc ?_ _)); exact BK103.out) Try.underlying27 rfl (by kernel_rfl)) rfl ?_
    exact ⟨_, by first | rfl | (simp [errW_none, errW_some] <;> rfl) | (simp [*, errW_none, errW_some] <;> rfl), by first | exact Kd.R_nil _ _ _ _ _ | exact Kd.N_nil _ _ _ _ _ | exact Kd.V_nil _ _ _ _ _ | exact Kd.Q_nil _ _ _ _ _ | exact Kd.S_nil _ _ _ _ _, by repeat (first | (with_reducible first | exact HB.out | apply below_alloc | apply pw_below_drewN | apply below_drew1 | refine below_set ?_ GE103.out) | exact HB.out)⟩
  · rw [if_neg c1] at H
    exact absurd H (by simp)

end Go.Proofs.Ytmifoihfpjomaaa.F

-- F16
namespace Go.Proofs.Ytmifoihfpjomaaa.F
open Go.RowKit Go.Proofs.YtmifoihfpjomaaaW.PrintWords Go.Proofs.YtmifoihfpjomaaaW.PrintLast Go.Proofs.YtmifoihfpjomaaaW.PrintMore
attribute [local go_sem] max2_int min2_int max_two min_two max_three min_three max_four min_four   -- for this text's walks alone
set_option linter.unusedVariables false
set_option linter.unusedSimpArgs false

end Go.Proofs.Ytmifoihfpjomaaa.F

-- F13
namespace Go.Proofs.Ytmifoihfpjomaaa.F
open Go.RowKit Go.Proofs.YtmifoihfpjomaaaW.PrintWords Go.Proofs.YtmifoihfpjomaaaW.PrintLast Go.Proofs.YtmifoihfpjomaaaW.PrintMore
attribute [local go_sem] max2_int min2_int max_two min_two max_three min_three max_four min_four   -- for this text's walks alone
set_option linter.unusedVariables false
set_option linter.unusedSimpArgs false

end Go.Proofs.Ytmifoihfpjomaaa.F

-- F9
namespace Go.Proofs.Ytmifoihfpjomaaa.F
open Go.RowKit Go.Proofs.YtmifoihfpjomaaaW.PrintWords Go.Proofs.YtmifoihfpjomaaaW.PrintLast Go.Proofs.YtmifoihfpjomaaaW.PrintMore
attribute [local go_sem] max2_int min2_int max_two min_two max_three min_three max_four min_four   -- for this text's walks alone
set_option linter.unusedVariables false
set_option linter.unusedSimpArgs false

end Go.Proofs.Ytmifoihfpjomaaa.F

-- AudM
namespace Go.Proofs.Ytmifoihfpjomaaa.F
open Go Go.RowKit Go.Proofs.YtmifoihfpjomaaaW.PrintWords Go.Proofs.YtmifoihfpjomaaaW.PrintLast Go.Proofs.YtmifoihfpjomaaaW.PrintMore Go.Proofs.YtmifoihfpjomaaaM Go.Proofs.YtmifoihfpjomaaaR
attribute [local go_sem] max2_int min2_int max_two min_two
set_option linter.unusedSimpArgs false
set_option linter.unusedVariables false
set_option maxRecDepth 100000
abbrev En := S36
def goodP (e : En) : Bool := decide (1 ≤ e.f0 ∧ e.f0 ≤ 2147483648 ∧ 0 ≤ e.f1 ∧ e.f1 ≤ 1099511627776 ∧ 0 ≤ e.f2 ∧ e.f2 ≤ 100 ∧ e.f3.size ≤ 32 ∧ 0 ≤ e.f4 ∧ e.f4 ≤ 100)
theorem good_f (e : En) : audit_good.f e.f0 e.f1 e.f2 e.f3 e.f4 = some (goodP e) := by
  unfold audit_good.f goodP
  repeat' split
  all_goals first
    | exact congrArg some (decide_eq_decide.2 (by omega))
    | exact congrArg some (decide_eq_false (by omega)).symm
theorem rgood_f (e : En) : strongroomref13_Good.f e.f0 e.f1 e.f2 e.f3 e.f4 = some (goodP e) := by
  unfold strongroomref13_Good.f goodP
  repeat' split
  all_goals first
    | exact congrArg some (decide_eq_decide.2 (by omega))
    | exact congrArg some (decide_eq_false (by omega)).symm
def mayL (first : Int) : List En → Bool
  | [] => true
  | e :: l => goodP e && (decide (e.f0 = first) && mayL (first + 1) l)
def mayP (a : ByteArray) (last : Int) (l : List En) : Bool := decide (a.size = 32 ∧ 0 ≤ last ∧ last ≤ 2147483648 ∧ (l.length : Int) = min last 8) && mayL (last - (l.length : Int) + 1) l
theorem rd_mid (pre suf : List En) (e : En) : rd_T36 (pre ++ e :: suf) (pre.length : Int) = e := by
  unfold rd_T36; simp [List.getD]
theorem may_l0 (a : ByteArray) (last : Int) (l : List En) (h0 : 0 ≤ last) (h1 : last ≤ 2147483648) (hn : l.length ≤ 8) : ∀ (suf pre : List En) (k : Nat), l = pre ++ suf → suf.length + 1 ≤ k →
    audit_May.l0 k l (l.length : Int) (pre.length : Int) a last l = some (mayL (last - (l.length : Int) + 1 + (pre.length : Int)) suf) := by
  intro suf
  induction suf with
  | nil =>
    intro pre k hp hk
    obtain ⟨k, rfl⟩ : ∃ m, k = m + 1 := ⟨k - 1, by omega⟩
    have : pre.length = l.length := by rw [hp]; simp
    simp only [audit_May.l0, mayL]
    rw [if_neg (by omega)]
  | cons e suf ih =>
    intro pre k hp hk
    obtain ⟨k, rfl⟩ : ∃ m, k = m + 1 := ⟨k - 1, by simp at hk; omega⟩
    have hlen : pre.length + (suf.length + 1) = l.length := by rw [hp]; simp
    have hrd : rd_T36 l (pre.length : Int) = e := by rw [hp]; exact rd_mid pre suf e
    simp only [audit_May.l0, mayL]
    rw [if_pos (by omega), if_pos (by omega), if_pos (by omega), hrd, good_f, obs]
    cases hg : goodP e with
    | false => rw [if_neg (by simp)]; simp
    | true =>
      rw [if_pos rfl, w64 (x := last - (l.length : Int)) (by omega) (by omega), w64 (x := last - (l.length : Int) + (pre.length : Int)) (by omega) (by omega), w64 (x := last - (l.length : Int) + (pre.length : Int) + 1) (by omega) (by omega)]
      by_cases he : e.f0 = last - (l.length : Int) + (pre.length : Int) + 1
      · rw [if_pos he, w64 (x := (pre.length : Int) + 1) (by omega) (by omega), decide_eq_true (show e.f0 = last - (l.length : Int) + 1 + (pre.length : Int) by omega)]
        have := ih (pre ++ [e]) k (by rw [hp]; simp) (by simp at hk; omega)
        rw [show (((pre ++ [e]).length : Nat) : Int) = (pre.length : Int) + 1 from by simp] at this
        rw [this]
        simp [Int.add_assoc]
      · rw [if_neg he, decide_eq_false (show ¬ e.f0 = last - (l.length : Int) + 1 + (pre.length : Int) by omega)]
        simp
theorem may_f (a : ByteArray) (last : Int) (l : List En) (k : Nat) (hk : 12 ≤ k) : audit_May.f k a last l = some (mayP a last l) := by
  obtain ⟨k, rfl⟩ : ∃ m, k = m + 1 := ⟨k - 1, by omega⟩
  unfold audit_May.f mayP
  by_cases h0 : (a.size : Int) = 32
  · rw [if_pos h0]
    by_cases h1 : last < 0
    · rw [if_pos h1, decide_eq_false (by omega)]; simp [audit_May.j0]
    · rw [if_neg h1]
      by_cases h2 : last > 2147483648
      · rw [if_pos h2, decide_eq_false (by omega)]; simp [audit_May.j0]
      · rw [if_neg h2]
        have hmn : mn last 8 = min last 8 := by unfold mn; split <;> omega
        simp only [audit_May.j0, hmn]
        by_cases h3 : (l.length : Int) = min last 8
        · rw [if_neg (by simpa using h3), decide_eq_true (by omega), Bool.true_and]
          have := may_l0 a last l (by omega) (by omega) (by omega) l [] k rfl (by omega)
          simpa using this
        · rw [if_pos (by simpa using h3), decide_eq_false (by omega)]; rfl
  · rw [if_neg h0, decide_eq_false (by omega)]; simp [audit_May.j0]
/-- an entry's bytes -/
def bytesE (e : En) : List Int := putL e.f0.toNat ++ putL e.f1.toNat ++ putL e.f2.toNat ++ textL e.f3 ++ putL e.f4.toNat
structure GoodR (e : En) : Prop where
  s0 : 1 ≤ e.f0
  s1 : e.f0 ≤ 2147483648
  t0 : 0 ≤ e.f1
  t1 : e.f1 ≤ 1099511627776
  k0 : 0 ≤ e.f2
  k1 : e.f2 ≤ 100
  p : e.f3.size ≤ 32
  e0 : 0 ≤ e.f4
  e1 : e.f4 ≤ 100
theorem goodR {e : En} (h : goodP e = true) : GoodR e := by
  have := of_decide_eq_true h
  obtain ⟨h1, h2, h3, h4, h5, h6, h7, h8, h9⟩ := this
  exact ⟨h1, h2, h3, h4, h5, h6, h7, h8, h9⟩
theorem textL_bytes (s : ByteArray) : ∀ x ∈ textL s, 0 ≤ x ∧ x < 256 := by
  intro x hx
  unfold textL at hx
  rcases List.mem_append.1 hx with hx | hx
  · exact putL_bytes _ x hx
  · exact bytesOf_byte _ x hx
theorem bytesE_bytes (e : En) : bytes8' (bytesE e) := by
  intro x hx
  unfold bytesE at hx
  simp only [List.mem_append] at hx
  rcases hx with (((hx | hx) | hx) | hx) | hx
  · exact putL_bytes _ x hx
  · exact putL_bytes _ x hx
  · exact putL_bytes _ x hx
  · exact textL_bytes _ x hx
  · exact putL_bytes _ x hx
theorem bytesE_len {e : En} (h : goodP e = true) : (bytesE e).length ≤ 100 := by
  have hg := goodR h
  have a := putL_ten (n := e.f0.toNat) (by have := hg.s1; omega)
  have b := putL_ten (n := e.f1.toNat) (by have := hg.t1; omega)
  have c := putL_ten (n := e.f2.toNat) (by have := hg.k1; omega)
  have d := putL_ten (n := e.f3.size) (by have := hg.p; omega)
  have f := putL_ten (n := e.f4.toNat) (by have := hg.e1; omega)
  have hp := hg.p
  unfold bytesE textL
  simp only [List.length_append, bytesOf_length]
  omega
theorem nat_wrap {x : Int} (h0 : 0 ≤ x) (h1 : x ≤ 9223372036854775807) : IntKind.u64.wrap x = ((x.toNat : Nat) : Int) := by
  rw [u64_wraps _ h0 (by omega)]; omega
theorem putT_f (k : Nat) (hk : 10 ≤ k) (l : List Int) (s : ByteArray) (hl : l.length ≤ 10000000) (hs : s.size ≤ 100000) : num_PutText.f k l s = some (l ++ textL s) := by
  unfold num_PutText.f
  have := putL_ten (n := s.size) (by omega)
  rw [own_f l (by omega), obs, u64_wraps _ (by omega) (by omega), lay_f k s.size l hk (by omega) (by omega), obs, if_pos (by simp; omega)]
  simp [textL]
theorem bytes_f (e : En) (h : goodP e = true) (k : Nat) (hk : 10 ≤ k) : audit_bytes.f k e.f0 e.f1 e.f2 e.f3 e.f4 = some (strOfNums (bytesE e)) := by
  have hg := goodR h
  have a := putL_ten (n := e.f0.toNat) (by have := hg.s1; omega)
  have b := putL_ten (n := e.f1.toNat) (by have := hg.t1; omega)
  have c := putL_ten (n := e.f2.toNat) (by have := hg.k1; omega)
  have d := putL_ten (n := e.f3.size) (by have := hg.p; omega)
  have hp := hg.p
  unfold audit_bytes.f
  rw [nat_wrap (x := e.f0) (by have := hg.s0; omega) (by have := hg.s1; omega), nat_wrap (x := e.f1) hg.t0 (by have := hg.t1; omega), nat_wrap (x := e.f2) hg.k0 (by have := hg.k1; omega), nat_wrap (x := e.f4) hg.e0 (by have := hg.e1; omega)]
  rw [put_f k _ _ hk (by have := hg.s1; omega) (by simp), obs, put_f k _ _ hk (by have := hg.t1; omega) (by simp; omega), obs, put_f k _ _ hk (by have := hg.k1; omega) (by simp; omega), obs]
  rw [putT_f k hk _ _ (by simp; omega) (by omega), obs, put_f k _ _ hk (by have := hg.e1; omega) (by simp [textL, bytesOf_length]; omega), obs]
  simp [bytesE]
/-- the digest of entries behind an anchor -/
def chainE (d : List Int) (l : List En) : List Int := l.foldl (fun k e => sealL k (bytesE e)) d
theorem chainE_snoc (d : List Int) (l : List En) (e : En) : chainE d (l ++ [e]) = sealL (chainE d l) (bytesE e) := by simp [chainE]
theorem chainE_app (d : List Int) (l m : List En) : chainE d (l ++ m) = chainE (chainE d l) m := by simp [chainE]
theorem chainE_bytes {d : List Int} (hd : bytes8' d) : ∀ l, bytes8' (chainE d l) := by
  intro l
  induction l generalizing d with
  | nil => exact hd
  | cons e l ih => exact ih (sealL_bytes _ _)
theorem chainE_len {d : List Int} (hd : d.length ≤ 1000) : ∀ l, (chainE d l).length ≤ 1000 := by
  intro l
  induction l generalizing d with
  | nil => exact hd
  | cons e l ih => exact ih (by rw [sealL_len]; omega)
theorem mayL_good {first : Int} {l : List En} (h : mayL first l = true) : ∀ e ∈ l, goodP e = true := by
  induction l generalizing first with
  | nil => intro e he; simp at he
  | cons x l ih =>
    simp only [mayL, Bool.and_eq_true] at h
    intro e he
    rcases List.mem_cons.1 he with rfl | he
    · exact h.1
    · exact ih h.2.2 e he
structure MayR (a : ByteArray) (last : Int) (l : List En) : Prop where
  sz : a.size = 32
  l0 : 0 ≤ last
  l1 : last ≤ 2147483648
  len : (l.length : Int) = min last 8
  good : ∀ e ∈ l, goodP e = true
  seq : mayL (last - (l.length : Int) + 1) l = true
theorem mayR {a : ByteArray} {last : Int} {l : List En} (h : mayP a last l = true) : MayR a last l := by
  unfold mayP at h
  simp only [Bool.and_eq_true, decide_eq_true_eq] at h
  obtain ⟨⟨h1, h2, h3, h4⟩, h5⟩ := h
  exact ⟨h1, h2, h3, h4, mayL_good h5, h5⟩
theorem may_c (a : ByteArray) (last : Int) (A : Option Addr) (c : Nat) (l : List En) (w : World) (hr : Kd.C k36 w A l.length l) (hc : l.length ≤ c) :
    Calls Try.prog 15 #[.agg #[.string a, .int .i64 last, .slice A l.length c]] w (Tells w (Is (.bool (mayP a last l)))) :=
  tells_is ((audit_May.calls 12 a last A c l _ w hr hc (may_f a last l 12 (by omega))).mono fun _ _ h => h)
theorem good_c (s t k : Int) (p : ByteArray) (x : Int) (w : World) : Calls Try.prog 31 #[.agg #[.int .i64 s, .int .i64 t, .int .i64 k, .string p, .int .i64 x]] w (Tells w (Is (.bool (goodP ⟨s, t, k, p, x⟩)))) :=
  tells_is ((audit_good.calls _ _ _ _ _ _ w (good_f ⟨s, t, k, p, x⟩)).mono fun _ _ h => h)
theorem rgood_c (s t k : Int) (p : ByteArray) (x : Int) (w : World) : Calls Try.prog 22 #[.agg #[.int .i64 s, .int .i64 t, .int .i64 k, .string p, .int .i64 x]] w (Tells w (Is (.bool (goodP ⟨s, t, k, p, x⟩)))) :=
  tells_is ((strongroomref13_Good.calls _ _ _ _ _ _ w (rgood_f ⟨s, t, k, p, x⟩)).mono fun _ _ h => h)
theorem bytes_c (s t k : Int) (p : ByteArray) (x : Int) (h : goodP ⟨s, t, k, p, x⟩ = true) (w : World) : Calls Try.prog 32 #[.agg #[.int .i64 s, .int .i64 t, .int .i64 k, .string p, .int .i64 x]] w (Tells w (Is (.string (strOfNums (bytesE ⟨s, t, k, p, x⟩))))) :=
  tells_is ((audit_bytes.calls 10 _ _ _ _ _ _ w (bytes_f ⟨s, t, k, p, x⟩ h 10 (by omega))).mono fun _ _ h => h)
end Go.Proofs.Ytmifoihfpjomaaa.F

-- MacL
namespace Go.Proofs.Ytmifoihfpjomaaa.F
open Go Go.RowKit Go.Proofs.YtmifoihfpjomaaaW.PrintWords Go.Proofs.YtmifoihfpjomaaaW.PrintLast Go.Proofs.YtmifoihfpjomaaaW.PrintMore Go.Proofs.YtmifoihfpjomaaaR
attribute [local go_sem] max2_int min2_int max_two min_two
set_option linter.unusedSimpArgs false
set_option linter.unusedVariables false
set_option maxRecDepth 100000
/-- a text's bytes are bytes -/
theorem bytesOf_bytes (s : ByteArray) : bytes8' (bytesOf s) := by
  intro y hy
  unfold bytesOf at hy
  obtain ⟨b, -, rfl⟩ := List.mem_map.1 hy
  have := b.toNat_lt
  omega
theorem str_bytes (s : ByteArray) : strOfNums (bytesOf s) = s := by
  apply ByteArray.ext
  show ((s.data.toList.map fun b => (b.toNat : Int)).map fun n => UInt8.ofNat n.toNat).toArray = s.data
  rw [List.map_map]
  conv => rhs; rw [← Array.toArray_toList (xs := s.data)]
  congr 1
  conv => rhs; rw [← List.map_id s.data.toList]
  apply List.map_congr_left
  intro b _
  show UInt8.ofNat ((b.toNat : Int)).toNat = b
  rw [Int.toNat_natCast]
  exact UInt8.ofNat_toNat
/-- the chain -/
def chainL (k : List Int) (ps : List ByteArray) : List Int := ps.foldl (fun k p => sealL k (bytesOf p)) k
theorem chainL_snoc (k : List Int) (ps : List ByteArray) (p : ByteArray) : chainL k (ps ++ [p]) = sealL (chainL k ps) (bytesOf p) := by
  unfold chainL; rw [List.foldl_append]; rfl
theorem chainL_bytes {k : List Int} (hk : bytes8' k) : ∀ ps, bytes8' (chainL k ps) := by
  intro ps
  rcases List.eq_nil_or_concat ps with rfl | ⟨qs, p, rfl⟩
  · exact hk
  · rw [List.concat_eq_append, chainL_snoc]; exact sealL_bytes _ _
theorem chainL_len {k : List Int} (hk : k.length ≤ 10000000) : ∀ ps, (chainL k ps).length ≤ 10000000 := by
  intro ps
  rcases List.eq_nil_or_concat ps with rfl | ⟨qs, p, rfl⟩
  · exact hk
  · rw [List.concat_eq_append, chainL_snoc, sealL_len]; omega
theorem strs_cell {w : World} {A : Option Addr} {n : Nat} {x : List ByteArray} (h : Kd.C Kd.string w A n x) (i : Nat) (hi : i < n) : ∃ ad, A = some ad ∧ w.cell? (ad.add i) = some (.string (x.getD i ByteArray.empty)) := by
  have hr := Kd.reads_of_C (enc := Value.string) (d := ByteArray.empty) (h1 := fun _ => rfl) h
  obtain ⟨ad, hA, hc⟩ := hr.2.2 (by omega)
  exact ⟨ad, hA, hc i hi⟩
set_option maxHeartbeats 2000000 in
theorem rchain_c (k : List Int) (hk : bytes8' k) (hkl : k.length ≤ 10000000) : ∀ (n : Nat) (w : World) (A : Option Addr) (c : Nat) (ps : List ByteArray), Kd.C Kd.string w A n ps → ps.length = n → n ≤ c → n ≤ 1000000000 → (∀ p ∈ ps, p.size ≤ 10000000) →
    Calls Try.prog 34 #[.string (strOfNums k), .slice A n c] w (Tells w (Is (.string (strOfNums (chainL k ps)))))
  | 0, w, A, c, ps, hr, hn, hc, hn2, hps => by
    obtain rfl : ps = [] := List.eq_nil_of_length_eq_zero hn
    have h0 : chainL k [] = k := rfl
    rw [h0]
    obtain ⟨K, hK⟩ : ∃ K, K = strOfNums k := ⟨_, rfl⟩
    rw [← hK]
    clear hK
    go_enter Try.func34, Try.ntmps34
    go_wp2_with fail
    go_ret
    exact ⟨_, rfl, rfl, Grew.refl w⟩
  | n + 1, w, A, c, ps, hr, hn, hc, hn2, hps => by
    obtain ⟨qs, p, rfl⟩ : ∃ qs p, ps = qs ++ [p] := by
      rcases List.eq_nil_or_concat ps with rfl | ⟨qs, p, h⟩
      · simp at hn
      · exact ⟨qs, p, by rw [h, List.concat_eq_append]⟩
    have hql : qs.length = n := by simp at hn; exact hn
    obtain ⟨ad, rfl, hcell⟩ := strs_cell hr n (by omega)
    have hpi : (qs ++ [p]).getD n ByteArray.empty = p := by rw [← hql]; simp [List.getD]
    rw [hpi] at hcell
    have hq : ∀ w', Grew w w' → Kd.C Kd.string w' (some ad) n qs := fun w' hg => by
      have h := (Kd.reads_of_C (enc := Value.string) (d := ByteArray.empty) (h1 := fun _ => rfl) (Kd.C_below hr hg)).take_ n (by omega)
      rw [← hql, List.take_left] at h
      rw [← hql]
      exact Kd.C_of_reads (h1 := fun _ => rfl) h
    have HIH := Lib.hid (fun w' (hg : Grew w w') => rchain_c k hk hkl n w' (some ad) c qs (hq w' hg) hql (by omega) (by omega) (fun q hq => hps q (by simp [hq])))
    have HSE := Lib.hid (fun w' => rseal_c w' (chainL k qs) (bytesOf p) (chainL_bytes hk qs) (bytesOf_bytes p) (by have := chainL_len hkl qs; omega) (by rw [bytesOf_length]; have := hps p (by simp); omega))
    rw [str_bytes, ← chainL_snoc] at HSE
    obtain ⟨K, hK⟩ : ∃ K, K = strOfNums k := ⟨_, rfl⟩
    obtain ⟨X, hX⟩ : ∃ X, X = strOfNums (chainL k qs) := ⟨_, rfl⟩
    obtain ⟨Y, hY⟩ : ∃ Y, Y = strOfNums (chainL k (qs ++ [p])) := ⟨_, rfl⟩
    rw [← hX, ← hK] at HIH
    rw [← hX, ← hY] at HSE
    rw [← hK, ← hY]
    have HCell := Lib.hid hcell
    obtain ⟨m, hm⟩ : ∃ m, m = n + 1 := ⟨_, rfl⟩
    rw [← hm] at hc ⊢
    have e1 : IntKind.i64.wrap ((m : Int) - 1) = (n : Int) := by rw [IntWalk.i64_in _ (by omega)]; omega
    have n0 : ¬ (m : Int) = 0 := by omega
    have n0' : ¬ m = 0 := by omega
    have i1 : (n : Int) < (m : Int) := by omega
    have i2 : (n : Int) ≤ (c : Int) := by omega
    have i3 : n < m := by omega
    clear hr hn hps hql hcell hpi hq hK hX hY hk hkl hm
    go_enter Try.func34, Try.ntmps34
    go_wp2_with fail
    apply region_grew [Is _, Is _, Is _, Is _, Is _, Is _, Is _, Is _, Is _, Is _, Is _] [([(0, none)], none), ([(1, none)], none), ([(5, none)], none), ([(13, some 2)], none), ([(12, some 1), (14, some 3)], none), ([(11, some 0), (15, some 4)], none), ([(1, none)], none), ([(5, none)], none), ([(18, some 7)], none), ([(17, some 6), (19, some 8)], none), ([(20, some 9)], none)] [(11, 0), (12, 1), (13, 2), (14, 3), (15, 4), (16, 5), (17, 6), (18, 7), (19, 8), (20, 9), (21, 10)] rfl (by kernel_rfl) (by kernel_rfl) (show Stable Grew _ from ⟨Is.stable _, Is.stable _, Is.stable _, Is.stable _, Is.stable _, Is.stable _, Is.stable _, Is.stable _, Is.stable _, Is.stable _, Is.stable _, trivial⟩)
    · show OpsHold _ _ _ _ _ _ _ _ _
      refine ⟨fun a_ wx hR hD K hK => ?_, ?_⟩
      · have hG : Grew w wx := (Grew.drew _).trans hR
        simp [Deps, Dep, at_, Is] at hD
        go_simp
        exact hK _ _ (Grew.refl _) rfl
      refine ⟨fun a_ wx hR hD K hK => ?_, ?_⟩
      · have hG : Grew w wx := (Grew.drew _).trans hR
        simp [Deps, Dep, at_, Is] at hD
        go_simp
        exact hK _ _ (Grew.refl _) rfl
      refine ⟨fun a_ wx hR hD K hK => ?_, ?_⟩
      · have hG : Grew w wx := (Grew.drew _).trans hR
        simp [Deps, Dep, at_, Is] at hD
        go_simp
        exact hK _ _ (Grew.refl _) rfl
      refine ⟨fun a_ wx hR hD K hK => ?_, ?_⟩
      · have hG : Grew w wx := (Grew.drew _).trans hR
        simp [Deps, Dep, at_, Is] at hD
        go_simp
        exact hK _ _ (Grew.refl _) rfl
      refine ⟨fun a_ wx hR hD K hK => ?_, ?_⟩
      · have hG : Grew w wx := (Grew.drew _).trans hR
        simp [Deps, Dep, at_, Is] at hD
        obtain ⟨hd0, hd1⟩ := hD
        go_simp
        exact hK _ _ (Grew.refl _) rfl
      refine ⟨fun a_ wx hR hD K hK => ?_, ?_⟩
      · have hG : Grew w wx := (Grew.drew _).trans hR
        simp [Deps, Dep, at_, Is] at hD
        obtain ⟨hd0, hd1⟩ := hD
        go_simp
        have hcn := HIH.out wx hG
        with_reducible refine hcn.mono ?_
        clear hcn
        rintro e wy ⟨v, rfl, hv, hg⟩
        exact hK _ _ hg hv
      refine ⟨fun a_ wx hR hD K hK => ?_, ?_⟩
      · have hG : Grew w wx := (Grew.drew _).trans hR
        simp [Deps, Dep, at_, Is] at hD
        go_simp
        exact hK _ _ (Grew.refl _) rfl
      refine ⟨fun a_ wx hR hD K hK => ?_, ?_⟩
      · have hG : Grew w wx := (Grew.drew _).trans hR
        simp [Deps, Dep, at_, Is] at hD
        go_simp
        exact hK _ _ (Grew.refl _) rfl
      refine ⟨fun a_ wx hR hD K hK => ?_, ?_⟩
      · have hG : Grew w wx := (Grew.drew _).trans hR
        simp [Deps, Dep, at_, Is] at hD
        go_simp
        exact hK _ _ (Grew.refl _) rfl
      refine ⟨fun a_ wx hR hD K hK => ?_, ?_⟩
      · have hG : Grew w wx := (Grew.drew _).trans hR
        simp [Deps, Dep, at_, Is] at hD
        obtain ⟨hd0, hd1⟩ := hD
        go_simp
        exact hK _ _ (Grew.refl _) rfl
      refine ⟨fun a_ wx hR hD K hK => ?_, ?_⟩
      · have hG : Grew w wx := (Grew.drew _).trans hR
        simp [Deps, Dep, at_, Is] at hD
        have e_ := pw_cell_below hG HCell.out
        go_simp
        exact hK _ _ (Grew.refl _) rfl
      trivial
    · show EndHold _ _ _ _ _ _ _
      refine end_all (xs := [_, _, _, _, _, _, _, _, _, _, _]) ⟨rfl, rfl, rfl, rfl, rfl, rfl, rfl, rfl, rfl, rfl, rfl, trivial⟩ ?_
      rintro w5 hR1 -
      refine ⟨?_⟩
      have hG_w5 : Grew w w5 := (Grew.drew _).trans hR1
      clear hR1
      simp only [Act.put, List.setIfInBounds_toArray, List.set_cons_succ, List.set_cons_zero, dropN, putEach]
      go_wp2_with fail
      refine (HSE.out _).mono ?_
      rintro e w6 ⟨_, rfl, rfl, hg6⟩
      go_wp2_with fail
      go_ret
      exact ⟨_, rfl, rfl, Grew.trans hG_w5 hg6⟩
end Go.Proofs.Ytmifoihfpjomaaa.F

-- Grp
namespace Go.Proofs.Ytmifoihfpjomaaa.F
open Go Go.RowKit Go.Proofs.YtmifoihfpjomaaaW.PrintWords Go.Proofs.YtmifoihfpjomaaaW.PrintLast Go.Proofs.YtmifoihfpjomaaaW.PrintMore Go.Proofs.YtmifoihfpjomaaaR
open Go.ChangeMaps Go.MapKept Go.ChangeShapes
open Go.WideElems (Fit rd rg pl rd_val elemAt)
open Go.Maps (Keyed)
set_option linter.unusedSimpArgs false
set_option linter.unusedVariables false
section
variable {H : Type} {P : Program} {k : TypeId} {w w' : World} {base : Nat} {e : TypeId} {q : IntKind} {b n : Nat} {D : DataW H}
theorem late_upd {W wx : World} {row : Option Nat} (h : Grew W wx ∨ ∃ w1, Grew W w1 ∧ w1.grownBy wx row) : Upd (fun k => row = some k) W wx := by
  rcases h with h | ⟨w1, h1, h2⟩
  · exact Upd.of_grew h
  · exact (Upd.of_grew h1).grown h2 fun k hk => .inl hk
/-- a slice of one element of some cells in a block of its own, which is not the row that is written -/
def OneC (e : TypeId) (cs : List Value) (vb : Value) : World → Value → Prop := fun w v => ∃ g1, v = .slice (some ⟨g1, 0, none⟩) 1 1 ∧ Blk w g1 e cs ∧ some g1 ≠ vb.ownBlock
theorem OneC.stableB (e : TypeId) (cs : List Value) (vb : Value) : ∀ w w' v, Grew w w' ∨ w.grownBy w' vb.ownBlock → OneC e cs vb w v → OneC e cs vb w' v :=
  fun _ _ _ hr ⟨g1, h1, h2, h3⟩ => ⟨g1, h1, hr.elim h2.grew (fun hg => blk_grown h2 hg h3), h3⟩
theorem OneC.new {w : World} {e : TypeId} {cs : List Value} {vb : Value} (h : ∀ k, vb.ownBlock = some k → k < w.heap.size) : OneC e cs vb (w.alloc (.cells cs.toArray e)) (.slice (some ⟨w.heap.size, 0, none⟩) 1 1) :=
  ⟨_, rfl, Blk.new w e cs, fun he => by have := h _ he.symm; omega⟩
/-- one element, of some cells in a block of its own, behind a row of one's own -/
theorem app_cells {P : Program} (W : World) (base : Nat) (t e ty : TypeId) (z : Value) (size bytes : Nat) (ht : P.underlying t = some (.slice e)) (hinfo : (P.info? e).map (fun i => (i.zero, i.size, i.bytes)) = some (some z, size, bytes)) (hz : z.cells.size = size) (hs0 : 0 < size) (hb0 : 0 < bytes)
    (v : Value) (n : Nat) (xs : List Value) (g1 : Nat) (cs : List Value) (hcs : cs.length = size) (h1 : ∀ u ∈ cs, u.oneCell' = true) (HO : W.ownsRow base e size v n xs) (HB : Blk W g1 e cs) (hbase : base ≤ W.heap.size) (hl : (n + 1) * bytes ≤ 140737488355328) :
    ∃ v1 w1, (Builtin.append_ #[t, t] ty #[v, .slice (some ⟨g1, 0, none⟩) 1 1]).run P W = .ok v1 w1 ∧ w1.ownsRow base e size v1 (n + 1) (xs ++ cs) ∧ W.grownBy w1 v.ownBlock ∧ (v1.ownBlock = v.ownBlock ∨ ∃ k, v1.ownBlock = some k ∧ W.heap.size ≤ k) := by
  obtain ⟨i0, hi, hzz⟩ := Option.map_eq_some_iff.1 hinfo
  simp only [Prod.mk.injEq] at hzz
  obtain ⟨hz0, hz1, hz2⟩ := hzz
  have hlen : n + 1 ≤ 140737488355328 := Nat.le_trans (Nat.le_mul_of_pos_right _ hb0) hl
  obtain ⟨v1, w1, hr, h2, h3, _, h5⟩ := run_append_own_at (P := P) W base t ty e i0 z size bytes ht hi hz0 hz1 hz2 hz hs0 v n xs HO ⟨g1, 0, none⟩ 1 1 cs (by rw [hcs]; simp)
    (fun j u hu => by rw [add_plain, HB.at_]; simpa using hu) h1 (by simp only [maxLen]; omega) hl hbase
  exact ⟨v1, w1, hr, h2, h3, h5.imp id fun h => ⟨_, h, Nat.le_refl _⟩⟩
/-- a whole row behind one's own -/
theorem app_many {P : Program} (W : World) (base : Nat) (t e ty : TypeId) (z : Value) (size bytes : Nat) (ht : P.underlying t = some (.slice e)) (hinfo : (P.info? e).map (fun i => (i.zero, i.size, i.bytes)) = some (some z, size, bytes)) (hz : z.cells.size = size) (hs0 : 0 < size) (hb0 : 0 < bytes)
    (v : Value) (n : Nat) (xs : List Value) (A : Option Addr) (m c : Nat) (news : List Value) (hcs : news.length = m * size) (h1 : ∀ u ∈ news, u.oneCell' = true) (hc : 0 < m → ∃ ad, A = some ad ∧ ∀ j u, news[j]? = some u → W.cell? (ad.add j) = some u)
    (HO : W.ownsRow base e size v n xs) (hbase : base ≤ W.heap.size) (hl : (n + m) * bytes ≤ 140737488355328) :
    ∃ v1 w1, (Builtin.append_ #[t, t] ty #[v, .slice A m c]).run P W = .ok v1 w1 ∧ w1.ownsRow base e size v1 (n + m) (xs ++ news) ∧ W.grownBy w1 v.ownBlock ∧ (v1.ownBlock = v.ownBlock ∨ ∃ k, v1.ownBlock = some k ∧ W.heap.size ≤ k) := by
  obtain ⟨i0, hi, hzz⟩ := Option.map_eq_some_iff.1 hinfo
  simp only [Prod.mk.injEq] at hzz
  obtain ⟨hz0, hz1, hz2⟩ := hzz
  have hlen : n + m ≤ 140737488355328 := Nat.le_trans (Nat.le_mul_of_pos_right _ hb0) hl
  rcases Nat.eq_zero_or_pos m with h0 | hpos
  · subst h0
    obtain rfl : news = [] := List.eq_nil_of_length_eq_zero (by simpa using hcs)
    refine ⟨v, W, ?_, by simpa using HO, World.grownBy.refl W _, .inl rfl⟩
    have hld : ∀ ad : Addr, (loadCells ad 0).run P W = .ok #[] W := fun ad => by simpa using run_loadCells_list (P := P) W ad [] (by simp)
    rcases HO.2 with ⟨rfl, hn⟩ | ⟨g, cap, cur, rfl, _, _, hnc, _⟩
    · cases A <;> simp [Builtin.append_, run_underlying ht, sizeOf, typeInfo, hi, Builtin.lenOf, Builtin.firstCells, hld]
    · cases A <;> simp [Builtin.append_, run_underlying ht, sizeOf, typeInfo, hi, Builtin.lenOf, Builtin.firstCells, hnc, storeCells, hld]
  · obtain ⟨ad, rfl, hcells⟩ := hc hpos
    obtain ⟨v1, w1, hr, h2, h3, _, h5⟩ := run_append_own_at (P := P) W base t ty e i0 z size bytes ht hi hz0 hz1 hz2 hz hs0 v n xs HO ad m c news hcs hcells h1 (by simp only [maxLen]; omega) hl hbase
    exact ⟨v1, w1, hr, h2, h3, h5.imp id fun h => ⟨_, h, Nat.le_refl _⟩⟩
end
end Go.Proofs.Ytmifoihfpjomaaa.F

-- AudC
namespace Go.Proofs.Ytmifoihfpjomaaa.F
open Go Go.RowKit Go.Proofs.YtmifoihfpjomaaaW.PrintWords Go.Proofs.YtmifoihfpjomaaaW.PrintLast Go.Proofs.YtmifoihfpjomaaaW.PrintMore Go.Proofs.YtmifoihfpjomaaaM Go.Proofs.YtmifoihfpjomaaaR
attribute [local go_sem] max2_int min2_int max_two min_two
set_option linter.unusedSimpArgs false
set_option linter.unusedVariables false
set_option maxRecDepth 100000
set_option maxHeartbeats 4000000 in
theorem achain_c (w : World) (d : List Int) (A : Option Addr) (n c : Nat) (l : List En) (hr : Kd.C k36 w A n l) (hn : l.length = n) (hc : n ≤ c) (hn2 : n ≤ 1000) (hd : bytes8' d) (hdl : d.length ≤ 1000) (hg : ∀ e ∈ l, goodP e = true) :
    Calls Try.prog 33 #[.string (strOfNums d), .slice A n c] w (Tells w (Is (.string (strOfNums (chainE d l))))) := by
  have HR := Lib.hid hr
  have HN := Lib.hid hn
  have HG := Lib.hid hg
  have HDB := Lib.hid (chainE_bytes hd)
  have HDL := Lib.hid (chainE_len hdl)
  have h0 : strOfNums d = strOfNums (chainE d []) := rfl
  rw [h0]
  obtain ⟨K, hK⟩ : ∃ K, K = strOfNums (chainE d []) := ⟨_, rfl⟩
  rw [← hK]
  have HK := Lib.hid hK
  clear hr hn hg hd hdl h0 hK
  go_enter Try.func33, Try.ntmps33
  go_wp2_with fail
  go_loopw [0, 9] (fun v0 iv wr => ∃ (pre suf : List En) (X : ByteArray), v0 = .string X ∧ iv = .int .i64 (pre.length : Int) ∧ l = pre ++ suf ∧ X = strOfNums (chainE d pre) ∧ Grew w wr) (fun _ iv _ => n - (intOf iv).toNat)
  case atStart => exact ⟨[], l, _, rfl, rfl, rfl, HK.out, Grew.refl w⟩
  case round =>
    obtain ⟨pre, suf, X, rfl, rfl, hp, hX, hgr⟩ := hrel
    have hnn := HN.out
    rw [hp, List.length_append] at hnn
    rcases suf with _ | ⟨e, suf⟩
    · have d1 : decide ((pre.length : Int) < (n : Int)) = false := decide_eq_false (by simp at hnn; omega)
      have d2 : decide (pre.length < n) = false := decide_eq_false (by simp at hnn; omega)
      rw [List.append_nil] at hp
      have HP := Lib.hid hp
      have HX := Lib.hid hX
      clear hp hnn hX
      go_wp2_with fail
      go_ret
      exact ⟨_, rfl, by rw [HX.out, HP.out]; rfl, hgr⟩
    · have hlt : pre.length < n := by simp at hnn; omega
      have d1 : decide ((pre.length : Int) < (n : Int)) = true := decide_eq_true (by omega)
      have d2 : decide (pre.length < n) = true := decide_eq_true hlt
      have i1 : (pre.length : Int) < (n : Int) := by omega
      obtain ⟨ad0, rfl, k0, k1, k2, k3, k4⟩ := at_T36 (Kd.C_below HR.out hgr) (pre.length : Int) (by omega) i1
      have hxe : rd_T36 l (pre.length : Int) = e := by rw [hp]; exact rd_mid pre suf e
      rw [Int.toNat_natCast, hxe] at k0 k1 k2 k3 k4
      have hge := HG.out e (by rw [hp]; simp)
      have HP := Lib.hid (show l = (pre ++ [e]) ++ suf from by rw [hp]; simp)
      obtain ⟨s, t, k, p, x⟩ := e
      simp only at k0 k1 k2 k3 k4
      have HBY := Lib.hid (fun w => bytes_c s t k p x hge w)
      obtain ⟨M, hM⟩ : ∃ M, M = strOfNums (bytesE ⟨s, t, k, p, x⟩) := ⟨_, rfl⟩
      obtain ⟨Y, hY⟩ : ∃ Y, Y = strOfNums (chainE d (pre ++ [⟨s, t, k, p, x⟩])) := ⟨_, rfl⟩
      have HSE := Lib.hid (fun w => seal_c w (chainE d pre) (bytesE ⟨s, t, k, p, x⟩) (HDB.out pre) (bytesE_bytes _) (by have := HDL.out pre; omega) (by have := bytesE_len hge; omega))
      rw [← chainE_snoc, ← hX, ← hM, ← hY] at HSE
      rw [← hM] at HBY
      have HY := Lib.hid hY
      have HGR := Lib.hid hgr
      clear hp hnn hxe hge hX hM hY hgr
      go_wp2_with fail
      refine (HBY.out _).mono ?_
      rintro e2 w2 ⟨_, rfl, rfl, hg2⟩
      have hg2' := Grew.trans (Grew.trans HGR.out (Grew.alloc _ _)) hg2
      clear k0 k1 k2 k3 k4 hg2
      go_wp2_with fail
      refine (HSE.out _).mono ?_
      rintro e3 w3 ⟨_, rfl, rfl, hg3⟩
      have hg3' := Grew.trans hg2' hg3
      clear hg2' hg3
      go_wp2_with fail
      go_roundw
      case rel => exact ⟨pre ++ [⟨s, t, k, p, x⟩], suf, Y, rfl, by simp, HP.out, HY.out, hg3'⟩
      case measure => simp [intOf]; omega
set_option maxHeartbeats 4000000 in
theorem rbytes_c (s t k : Int) (p : ByteArray) (x : Int) (h : goodP ⟨s, t, k, p, x⟩ = true) (w : World) : Calls Try.prog 24 #[.agg #[.int .i64 s, .int .i64 t, .int .i64 k, .string p, .int .i64 x]] w (Tells w (Is (.string (strOfNums (bytesE ⟨s, t, k, p, x⟩))))) := by
  have hg := goodR h
  have e1 := nat_wrap (x := s) (by have := hg.s0; simp at this; omega) (by have := hg.s1; simp at this; omega)
  have e2 := nat_wrap (x := t) hg.t0 (by have := hg.t1; simp at this; omega)
  have e3 := nat_wrap (x := k) hg.k0 (by have := hg.k1; simp at this; omega)
  have e4 := nat_wrap (x := x) hg.e0 (by have := hg.e1; simp at this; omega)
  have hps : p.size ≤ 32 := hg.p
  have H1 := Lib.hid (fun w => rput_c s.toNat w (by have := hg.s1; simp at this; omega))
  have H2 := Lib.hid (fun w => rput_c t.toNat w (by have := hg.t1; simp at this; omega))
  have H3 := Lib.hid (fun w => rput_c k.toNat w (by have := hg.k1; simp at this; omega))
  have H4 := Lib.hid (fun w => rtext_c p w (by omega))
  have H5 := Lib.hid (fun w => rput_c x.toNat w (by have := hg.e1; simp at this; omega))
  have a1 := putL_ten (n := s.toNat) (by have := hg.s1; simp at this; omega)
  have a2 := putL_ten (n := t.toNat) (by have := hg.t1; simp at this; omega)
  have a3 := putL_ten (n := k.toNat) (by have := hg.k1; simp at this; omega)
  have a4 := putL_ten (n := p.size) (by omega)
  have a5 := putL_ten (n := x.toNat) (by have := hg.e1; simp at this; omega)
  obtain ⟨N1, h1⟩ : ∃ N, N = strOfNums (putL s.toNat) := ⟨_, rfl⟩
  obtain ⟨N2, h2⟩ : ∃ N, N = strOfNums (putL t.toNat) := ⟨_, rfl⟩
  obtain ⟨N3, h3⟩ : ∃ N, N = strOfNums (putL k.toNat) := ⟨_, rfl⟩
  obtain ⟨N4, h4⟩ : ∃ N, N = strOfNums (putL p.size) ++ p := ⟨_, rfl⟩
  obtain ⟨N5, h5⟩ : ∃ N, N = strOfNums (putL x.toNat) := ⟨_, rfl⟩
  have s1 : N1.size ≤ 10 := by rw [h1, str_size]; exact a1
  have s2 : N2.size ≤ 10 := by rw [h2, str_size]; exact a2
  have s3 : N3.size ≤ 10 := by rw [h3, str_size]; exact a3
  have s4 : N4.size ≤ 100 := by rw [h4, ByteArray.size_append, str_size]; omega
  have s5 : N5.size ≤ 10 := by rw [h5, str_size]; exact a5
  have hfin : strOfNums (bytesE ⟨s, t, k, p, x⟩) = N1 ++ N2 ++ N3 ++ N4 ++ N5 := by
    have e4' : N4 = strOfNums (textL p) := by rw [h4]; unfold textL; rw [← str_append]; rw [str_bytesOf]
    rw [h1, h2, h3, e4', h5, str_append, str_append, str_append, str_append]; rfl
  rw [hfin]
  rw [← h1, ← e1] at H1
  rw [← h2, ← e2] at H2
  rw [← h3, ← e3] at H3
  rw [← h4] at H4
  rw [← h5, ← e4] at H5
  obtain ⟨X2, hX2⟩ : ∃ X, X = N1 ++ N2 := ⟨_, rfl⟩
  obtain ⟨X3, hX3⟩ : ∃ X, X = X2 ++ N3 := ⟨_, rfl⟩
  obtain ⟨X4, hX4⟩ : ∃ X, X = X3 ++ N4 := ⟨_, rfl⟩
  have x2 : X2.size ≤ 20 := by rw [hX2, ByteArray.size_append]; omega
  have x3 : X3.size ≤ 30 := by rw [hX3, ByteArray.size_append]; omega
  have x4 : X4.size ≤ 130 := by rw [hX4, ByteArray.size_append]; omega
  have z1 : ¬ (9223372036854775807 < N1.size + N2.size) := by omega
  have z2 : ¬ (9223372036854775807 < X2.size + N3.size) := by omega
  have z3 : ¬ (9223372036854775807 < X3.size + N4.size) := by omega
  have z4 : ¬ (9223372036854775807 < X4.size + N5.size) := by omega
  rw [← hX2, ← hX3, ← hX4]
  have y2 := hX2.symm
  have y3 := hX3.symm
  have y4 := hX4.symm
  have CB := Lib.hid (fun wx (hh : Grew (w.alloc (.cells #[.int .i64 s, .int .i64 t, .int .i64 k, .string p, .int .i64 x] 36)) wx) => ((Blk.new w 36 [.int .i64 s, .int .i64 t, .int .i64 k, .string p, .int .i64 x]).grew hh).at_)
  clear hg h e1 e2 e3 e4 hps a1 a2 a3 a4 a5 h1 h2 h3 h4 h5 s1 s2 s3 s4 s5 hfin x2 x3 x4 hX2 hX3 hX4
  go_enter Try.func24, Try.ntmps24
  go_wp2_with fail
  apply region_grew [Is _, Is _, Is _, Is _, Is _, Is _, Is _, Is _, Is _, Is _, Is _, Is _, Is _, Is _, Is _, Is _, Is _, Is _, Is _, Is _, Is _, Is _] [([(1, none)], none), ([(3, some 0)], none), ([(4, some 1)], none), ([(5, some 2)], none), ([(1, none)], none), ([(7, some 4)], none), ([(8, some 5)], none), ([(9, some 6)], none), ([(6, some 3), (10, some 7)], none), ([(1, none)], none), ([(12, some 9)], none), ([(13, some 10)], none), ([(14, some 11)], none), ([(11, some 8), (15, some 12)], none), ([(1, none)], none), ([(17, some 14)], none), ([(18, some 15)], none), ([(16, some 13), (19, some 16)], none), ([(1, none)], none), ([(21, some 18)], none), ([(22, some 19)], none), ([(23, some 20)], none)] [(3, 0), (4, 1), (5, 2), (6, 3), (7, 4), (8, 5), (9, 6), (10, 7), (11, 8), (12, 9), (13, 10), (14, 11), (15, 12), (16, 13), (17, 14), (18, 15), (19, 16), (20, 17), (21, 18), (22, 19), (23, 20), (24, 21)] rfl (by kernel_rfl) (by kernel_rfl) (show Stable Grew _ from ⟨Is.stable _, Is.stable _, Is.stable _, Is.stable _, Is.stable _, Is.stable _, Is.stable _, Is.stable _, Is.stable _, Is.stable _, Is.stable _, Is.stable _, Is.stable _, Is.stable _, Is.stable _, Is.stable _, Is.stable _, Is.stable _, Is.stable _, Is.stable _, Is.stable _, Is.stable _, trivial⟩)
  · show OpsHold _ _ _ _ _ _ _ _ _
    refine ⟨fun a_ wx hR hD K hK => ?_, ?_⟩
    · have hG : Grew _ wx := (Grew.drew _).trans hR
      simp [Deps, Dep, at_, Is] at hD
      go_simp
      exact hK _ _ (Grew.refl _) rfl
    refine ⟨fun a_ wx hR hD K hK => ?_, ?_⟩
    · have hG : Grew _ wx := (Grew.drew _).trans hR
      simp [Deps, Dep, at_, Is] at hD
      have e_ := CB.out wx hG 0
      simp only [List.getElem?_cons_zero] at e_
      go_simp
      exact hK _ _ (Grew.refl _) rfl
    refine ⟨fun a_ wx hR hD K hK => ?_, ?_⟩
    · have hG : Grew _ wx := (Grew.drew _).trans hR
      simp [Deps, Dep, at_, Is] at hD
      go_simp
      exact hK _ _ (Grew.refl _) rfl
    refine ⟨fun a_ wx hR hD K hK => ?_, ?_⟩
    · have hG : Grew _ wx := (Grew.drew _).trans hR
      simp [Deps, Dep, at_, Is] at hD
      go_simp
      have hcn := H1.out wx
      with_reducible refine hcn.mono ?_
      clear hcn
      rintro e wy ⟨v, rfl, hv, hg⟩
      exact hK _ _ hg hv
    refine ⟨fun a_ wx hR hD K hK => ?_, ?_⟩
    · have hG : Grew _ wx := (Grew.drew _).trans hR
      simp [Deps, Dep, at_, Is] at hD
      go_simp
      exact hK _ _ (Grew.refl _) rfl
    refine ⟨fun a_ wx hR hD K hK => ?_, ?_⟩
    · have hG : Grew _ wx := (Grew.drew _).trans hR
      simp [Deps, Dep, at_, Is] at hD
      have e_ := CB.out wx hG 1
      simp only [List.getElem?_cons_zero, List.getElem?_cons_succ] at e_
      go_simp
      exact hK _ _ (Grew.refl _) rfl
    refine ⟨fun a_ wx hR hD K hK => ?_, ?_⟩
    · have hG : Grew _ wx := (Grew.drew _).trans hR
      simp [Deps, Dep, at_, Is] at hD
      go_simp
      exact hK _ _ (Grew.refl _) rfl
    refine ⟨fun a_ wx hR hD K hK => ?_, ?_⟩
    · have hG : Grew _ wx := (Grew.drew _).trans hR
      simp [Deps, Dep, at_, Is] at hD
      go_simp
      have hcn := H2.out wx
      with_reducible refine hcn.mono ?_
      clear hcn
      rintro e wy ⟨v, rfl, hv, hg⟩
      exact hK _ _ hg hv
    refine ⟨fun a_ wx hR hD K hK => ?_, ?_⟩
    · have hG : Grew _ wx := (Grew.drew _).trans hR
      simp [Deps, Dep, at_, Is] at hD
      obtain ⟨hd0, hd1⟩ := hD
      go_simp
      exact hK _ _ (Grew.refl _) rfl
    refine ⟨fun a_ wx hR hD K hK => ?_, ?_⟩
    · have hG : Grew _ wx := (Grew.drew _).trans hR
      simp [Deps, Dep, at_, Is] at hD
      go_simp
      exact hK _ _ (Grew.refl _) rfl
    refine ⟨fun a_ wx hR hD K hK => ?_, ?_⟩
    · have hG : Grew _ wx := (Grew.drew _).trans hR
      simp [Deps, Dep, at_, Is] at hD
      have e_ := CB.out wx hG 2
      simp only [List.getElem?_cons_zero, List.getElem?_cons_succ] at e_
      go_simp
      exact hK _ _ (Grew.refl _) rfl
    refine ⟨fun a_ wx hR hD K hK => ?_, ?_⟩
    · have hG : Grew _ wx := (Grew.drew _).trans hR
      simp [Deps, Dep, at_, Is] at hD
      go_simp
      exact hK _ _ (Grew.refl _) rfl
    refine ⟨fun a_ wx hR hD K hK => ?_, ?_⟩
    · have hG : Grew _ wx := (Grew.drew _).trans hR
      simp [Deps, Dep, at_, Is] at hD
      go_simp
      have hcn := H3.out wx
      with_reducible refine hcn.mono ?_
      clear hcn
      rintro e wy ⟨v, rfl, hv, hg⟩
      exact hK _ _ hg hv
    refine ⟨fun a_ wx hR hD K hK => ?_, ?_⟩
    · have hG : Grew _ wx := (Grew.drew _).trans hR
      simp [Deps, Dep, at_, Is] at hD
      obtain ⟨hd0, hd1⟩ := hD
      go_simp
      exact hK _ _ (Grew.refl _) rfl
    refine ⟨fun a_ wx hR hD K hK => ?_, ?_⟩
    · have hG : Grew _ wx := (Grew.drew _).trans hR
      simp [Deps, Dep, at_, Is] at hD
      go_simp
      exact hK _ _ (Grew.refl _) rfl
    refine ⟨fun a_ wx hR hD K hK => ?_, ?_⟩
    · have hG : Grew _ wx := (Grew.drew _).trans hR
      simp [Deps, Dep, at_, Is] at hD
      have e_ := CB.out wx hG 3
      simp only [List.getElem?_cons_zero, List.getElem?_cons_succ] at e_
      go_simp
      exact hK _ _ (Grew.refl _) rfl
    refine ⟨fun a_ wx hR hD K hK => ?_, ?_⟩
    · have hG : Grew _ wx := (Grew.drew _).trans hR
      simp [Deps, Dep, at_, Is] at hD
      go_simp
      have hcn := H4.out wx
      with_reducible refine hcn.mono ?_
      clear hcn
      rintro e wy ⟨v, rfl, hv, hg⟩
      exact hK _ _ hg hv
    refine ⟨fun a_ wx hR hD K hK => ?_, ?_⟩
    · have hG : Grew _ wx := (Grew.drew _).trans hR
      simp [Deps, Dep, at_, Is] at hD
      obtain ⟨hd0, hd1⟩ := hD
      go_simp
      exact hK _ _ (Grew.refl _) rfl
    refine ⟨fun a_ wx hR hD K hK => ?_, ?_⟩
    · have hG : Grew _ wx := (Grew.drew _).trans hR
      simp [Deps, Dep, at_, Is] at hD
      go_simp
      exact hK _ _ (Grew.refl _) rfl
    refine ⟨fun a_ wx hR hD K hK => ?_, ?_⟩
    · have hG : Grew _ wx := (Grew.drew _).trans hR
      simp [Deps, Dep, at_, Is] at hD
      have e_ := CB.out wx hG 4
      simp only [List.getElem?_cons_zero, List.getElem?_cons_succ] at e_
      go_simp
      exact hK _ _ (Grew.refl _) rfl
    refine ⟨fun a_ wx hR hD K hK => ?_, ?_⟩
    · have hG : Grew _ wx := (Grew.drew _).trans hR
      simp [Deps, Dep, at_, Is] at hD
      go_simp
      exact hK _ _ (Grew.refl _) rfl
    refine ⟨fun a_ wx hR hD K hK => ?_, ?_⟩
    · have hG : Grew _ wx := (Grew.drew _).trans hR
      simp [Deps, Dep, at_, Is] at hD
      go_simp
      have hcn := H5.out wx
      with_reducible refine hcn.mono ?_
      clear hcn
      rintro e wy ⟨v, rfl, hv, hg⟩
      exact hK _ _ hg hv
    trivial
  · show EndHold _ _ _ _ _ _ _
    refine end_all (xs := [_, _, _, _, _, _, _, _, _, _, _, _, _, _, _, _, _, _, _, _, _, _]) ⟨rfl, rfl, rfl, rfl, rfl, rfl, rfl, rfl, rfl, rfl, rfl, rfl, rfl, rfl, rfl, rfl, rfl, rfl, rfl, rfl, rfl, rfl, trivial⟩ ?_
    rintro w2 hR1 -
    refine ⟨?_⟩
    have hG_w2 : Grew _ w2 := (Grew.drew _).trans hR1
    clear hR1
    simp only [Act.put, List.setIfInBounds_toArray, List.set_cons_succ, List.set_cons_zero, dropN, putEach]
    go_wp2_with fail
    go_ret
    exact ⟨_, rfl, rfl, Grew.trans (Grew.alloc _ _) hG_w2⟩
end Go.Proofs.Ytmifoihfpjomaaa.F

-- AudD
namespace Go.Proofs.Ytmifoihfpjomaaa.F
open Go Go.RowKit Go.Proofs.YtmifoihfpjomaaaW.PrintWords Go.Proofs.YtmifoihfpjomaaaW.PrintLast Go.Proofs.YtmifoihfpjomaaaW.PrintMore Go.Proofs.YtmifoihfpjomaaaM Go.Proofs.YtmifoihfpjomaaaR
attribute [local go_sem] max2_int min2_int max_two min_two
set_option linter.unusedSimpArgs false
set_option linter.unusedVariables false
set_option maxRecDepth 100000
theorem infoStr : (Try.prog.info? 9).map (fun i => (i.zero, i.size, i.bytes)) = some (some (.string ⟨#[]⟩), 1, 16) := by kernel_rfl
def strE (l : List En) : List ByteArray := l.map fun e => strOfNums (bytesE e)
theorem chainL_strE (d : List Int) (l : List En) : chainL d (strE l) = chainE d l := by
  unfold chainL strE chainE
  induction l generalizing d with
  | nil => rfl
  | cons e l ih => simp only [List.map_cons, List.foldl_cons]; rw [bytesOf_str' (bytesE_bytes e), ih]
theorem own_strs {w : World} {base n : Nat} {e : TypeId} {v : Value} {l : List ByteArray} (h : w.ownsRow base e 1 v n (encs Value.string l)) : ∃ A c, v = .slice A n c ∧ l.length = n ∧ n ≤ c ∧ Kd.C Kd.string w A n l := by
  have hl : l.length = n := by have := h.1; simp [encs] at this; exact this
  obtain ⟨A, c, rfl, hr⟩ := own_reads_of (d := ByteArray.empty) h
  exact ⟨A, c, rfl, hl, own_le h, Kd.C_of_reads (h1 := fun _ => rfl) hr⟩
set_option maxHeartbeats 4000000 in
theorem rachain_c (w : World) (d : List Int) (A : Option Addr) (n c : Nat) (l : List En) (hr : Kd.C k36 w A n l) (hn : l.length = n) (hc : n ≤ c) (hn2 : n ≤ 1000) (hd : bytes8' d) (hdl : d.length ≤ 1000) (hg : ∀ e ∈ l, goodP e = true) :
    Calls Try.prog 21 #[.string (strOfNums d), .slice A n c] w (Tells w (Is (.string (strOfNums (chainE d l))))) := by
  have HR := Lib.hid hr
  have HN := Lib.hid hn
  have HG := Lib.hid hg
  have HCH := Lib.hid (fun w' A' c' (h : Kd.C Kd.string w' A' n (strE l)) (hc' : n ≤ c') => rchain_c d hd (by omega) n w' A' c' (strE l) h (by simp [strE, hn]) hc' (by omega) (by
    intro p hp
    obtain ⟨e, he, rfl⟩ := List.mem_map.1 hp
    rw [str_size]
    have := bytesE_len (hg e he)
    omega))
  rw [chainL_strE] at HCH
  obtain ⟨K, hK⟩ : ∃ K, K = strOfNums d := ⟨_, rfl⟩
  obtain ⟨R, hR⟩ : ∃ R, R = strOfNums (chainE d l) := ⟨_, rfl⟩
  rw [← hK, ← hR] at HCH ⊢
  clear hr hn hg hd hdl hK hR
  go_enter Try.func21, Try.ntmps21
  go_wp2_with fail
  go_loopw [5, 6] (fun v5 iv wr => ∃ (pre suf : List En), iv = .int .i64 (pre.length : Int) ∧ l = pre ++ suf ∧ wr.ownsRow w.heap.size 9 1 v5 (strE pre).length (encs Value.string (strE pre)) ∧ Grew w wr) (fun _ iv _ => n - (intOf iv).toNat)
  case atStart => exact ⟨[], l, rfl, rfl, own_nil _ _ _ _, Grew.refl w⟩
  case round =>
    obtain ⟨pre, suf, rfl, hp, hown, hgr⟩ := hrel
    have hnn := HN.out
    rw [hp, List.length_append] at hnn
    rcases suf with _ | ⟨e, suf⟩
    · have d1 : decide ((pre.length : Int) < (n : Int)) = false := decide_eq_false (by simp at hnn; omega)
      have d2 : decide (pre.length < n) = false := decide_eq_false (by simp at hnn; omega)
      rw [List.append_nil] at hp
      have hl2 : (strE pre).length = n := by rw [← hp]; simp [strE]; exact HN.out
      obtain ⟨A5, c5, rfl, -, hc5, hC5⟩ := own_strs hown
      rw [← hp] at hC5
      rw [hl2] at hc5
      have hC5' : Kd.C Kd.string wr A5 n (strE l) := by rw [hp, hl2] at hC5; rw [hp]; exact hC5
      have HCC := Lib.hid (HCH.out wr A5 c5 hC5' hc5)
      rw [hl2]
      clear hp hnn hown hC5 hC5' hl2
      go_wp2_with fail
      refine HCC.out.mono ?_
      rintro e w2 ⟨_, rfl, rfl, hg2⟩
      go_wp2_with fail
      go_ret
      exact ⟨_, rfl, rfl, Grew.trans hgr hg2⟩
    · have hlt : pre.length < n := by simp at hnn; omega
      have d1 : decide ((pre.length : Int) < (n : Int)) = true := decide_eq_true (by omega)
      have d2 : decide (pre.length < n) = true := decide_eq_true hlt
      have i1 : (pre.length : Int) < (n : Int) := by omega
      obtain ⟨ad0, rfl, k0, k1, k2, k3, k4⟩ := at_T36 (Kd.C_below HR.out hgr) (pre.length : Int) (by omega) i1
      have hxe : rd_T36 l (pre.length : Int) = e := by rw [hp]; exact rd_mid pre suf e
      rw [Int.toNat_natCast, hxe] at k0 k1 k2 k3 k4
      have hge := HG.out e (by rw [hp]; simp)
      have HP := Lib.hid (show l = (pre ++ [e]) ++ suf from by rw [hp]; simp)
      have hlp := Lib.hid (show (strE pre).length ≤ 1000 from by simp [strE]; omega)
      obtain ⟨s, t, k, p, x⟩ := e
      simp only at k0 k1 k2 k3 k4
      have HBY := Lib.hid (fun w => rbytes_c s t k p x hge w)
      obtain ⟨M, hM⟩ : ∃ M, M = strOfNums (bytesE ⟨s, t, k, p, x⟩) := ⟨_, rfl⟩
      rw [← hM] at HBY
      have HSN := Lib.hid (show strE pre ++ [M] = strE (pre ++ [⟨s, t, k, p, x⟩]) from by rw [hM]; simp [strE])
      have HO := Lib.hid hown
      have HGR := Lib.hid hgr
      clear hp hnn hxe hge hM hgr hown
      obtain ⟨A5, c5, rfl⟩ := own_slice HO.out
      go_wp2_with fail
      refine (HBY.out _).mono ?_
      rintro e2 w2 ⟨_, rfl, rfl, hg2⟩
      have hgr3 := Grew.trans HGR.out hg2
      have hown3 := pw_own_below (pw_own_below HO.out hg2) (Grew.alloc w2 (.cells #[.string M] 9))
      obtain ⟨v8, w8, hrun, hown8, hgr8, -⟩ := app_cells (P := Try.prog) (w2.alloc (.cells #[.string M] 9)) w.heap.size 56 9 56 (.string ⟨#[]⟩) 1 16 Try.underlying56 infoStr rfl (by decide) (by decide) (.slice A5 (strE pre).length c5) (strE pre).length (encs Value.string (strE pre)) w2.heap.size [.string M] rfl (by intro u hu; simp at hu; rcases hu with rfl; rfl) hown3 (Blk.new w2 9 [.string M]) (Nat.le_trans hgr3.size (by simp)) (by have := hlp.out; omega)
      have hgr8' : Grew w w8 := ((Upd.of_grew (S := fun k => (Value.slice A5 (strE pre).length c5).ownBlock = some k) (Grew.trans hgr3 (Grew.alloc w2 (.cells #[.string M] 9)))).trans (Upd.of_grown hgr8)).grew (fun i hi h => by have := own_base HO.out i h; omega)
      have HRUN := Lib.hid hrun
      have HO8 := Lib.hid (show w8.ownsRow w.heap.size 9 1 v8 (strE (pre ++ [⟨s, t, k, p, x⟩])).length (encs Value.string (strE (pre ++ [⟨s, t, k, p, x⟩]))) from by
        rw [← HSN.out, List.length_append]
        have : encs Value.string (strE pre ++ [M]) = encs Value.string (strE pre) ++ [.string M] := by simp [encs]
        rw [this]; exact hown8)
      clear k0 k1 k2 k3 k4 hg2 hown3 hrun hown8 hgr8 hgr3
      go_wp2_with (at_builtin; refine wpList_app (by rfl) (.tmp 13) (.tmp 19) 56 (by rfl) (by rfl) (by rfl) HRUN.out ?_)
      go_roundw
      case rel => exact ⟨pre ++ [⟨s, t, k, p, x⟩], suf, by simp, HP.out, HO8.out, hgr8'⟩
      case measure => simp [intOf]; omega
def digP (a : ByteArray) (last : Int) (l : List En) : ByteArray := if mayP a last l then strOfNums (chainE (bytesOf a) l) else ⟨#[]⟩
set_option maxHeartbeats 4000000 in
theorem digest_c (a : ByteArray) (last : Int) (A : Option Addr) (c : Nat) (l : List En) (w : World) (hr : Kd.C k36 w A l.length l) (hc : l.length ≤ c) :
    Calls Try.prog 20 #[.agg #[.string a, .int .i64 last, .slice A l.length c]] w (Tells w (Is (.string (digP a last l)))) := by
  have HM := Lib.hid (fun w' (h : Grew w w') => may_c a last A c l w' (Kd.C_below hr h) hc)
  obtain ⟨R, hR⟩ : ∃ R, R = digP a last l := ⟨_, rfl⟩
  rw [← hR]
  obtain ⟨b, hb⟩ : ∃ b, mayP a last l = b := ⟨_, rfl⟩
  rw [hb] at HM
  have hgw : Grew w (w.alloc (.cells #[.string a, .int .i64 last, .slice A l.length c] 27)) := Grew.alloc _ _
  cases b with
  | false =>
    have hres : R = ⟨#[]⟩ := by rw [hR]; unfold digP; rw [hb]; rfl
    subst hres
    clear hR hb hr
    go_enter Try.func20, Try.ntmps20
    go_wp2_with fail
    refine (HM.out _ hgw).mono ?_
    rintro e w2 ⟨_, rfl, rfl, hg2⟩
    go_wp2_with fail
    go_ret
    exact ⟨_, rfl, rfl, Grew.trans hgw hg2⟩
  | true =>
    have hm := mayR hb
    have hres : R = strOfNums (chainE (bytesOf a) l) := by rw [hR]; unfold digP; rw [hb]; rfl
    have hlen := hm.len
    have hsz := hm.sz
    have HCH := Lib.hid (fun w' (h : Grew w w') => achain_c w' (bytesOf a) A l.length c l (Kd.C_below hr h) rfl hc (by omega) (bytesOf_bytes a) (by rw [bytesOf_length]; omega) hm.good)
    rw [str_bytes, ← hres] at HCH
    have k0 := (Blk.new w 27 [.string a, .int .i64 last, .slice A l.length c])
    have HK := Lib.hid (fun wx (h : Grew (w.alloc (.cells #[.string a, .int .i64 last, .slice A l.length c] 27)) wx) => (k0.grew h).at_)
    clear hR hb hr hm hres hlen hsz k0
    go_enter Try.func20, Try.ntmps20
    go_wp2_with fail
    refine (HM.out _ hgw).mono ?_
    rintro e w2 ⟨_, rfl, rfl, hg2⟩
    have k0 := HK.out w2 hg2 0
    have k2 := HK.out w2 hg2 2
    simp only [List.getElem?_cons_zero, List.getElem?_cons_succ] at k0 k2
    go_wp2_with fail
    refine (HCH.out _ (Grew.trans hgw hg2)).mono ?_
    rintro e w3 ⟨_, rfl, rfl, hg3⟩
    go_wp2_with fail
    go_ret
    exact ⟨_, rfl, rfl, Grew.trans (Grew.trans hgw hg2) hg3⟩
end Go.Proofs.Ytmifoihfpjomaaa.F

-- RowO
namespace Go.Proofs.Ytmifoihfpjomaaa.F
open Go Go.RowKit Go.Proofs.YtmifoihfpjomaaaW.PrintWords Go.Proofs.YtmifoihfpjomaaaW.PrintLast Go.Proofs.YtmifoihfpjomaaaW.PrintMore Go.Proofs.YtmifoihfpjomaaaR
set_option linter.unusedSimpArgs false
set_option linter.unusedVariables false
/-- v is a row of n elements with these cells, in a block of its own that lies from base on -/
def RowO (w : World) (base : Nat) (e : TypeId) (size : Nat) (v : Value) (n : Nat) (xs : List Value) : Prop :=
  xs.length = n * size ∧ ((v = .slice none 0 0 ∧ n = 0) ∨ ∃ g o cap cur, v = .slice (some ⟨g, o, none⟩) n cap ∧ base ≤ g ∧ w.heap[g]? = some (.cells cur e (0, 0)) ∧ n ≤ cap ∧ cap ≤ maxLen ∧ o + cap * size ≤ cur.size ∧ (cur.toList.drop o).take (n * size) = xs)
section
variable {w w' : World} {base : Nat} {e : TypeId} {size : Nat} {v : Value} {n : Nat} {xs : List Value}
theorem rowO_of_own (h : w.ownsRow base e size v n xs) : RowO w base e size v n xs := by
  refine ⟨h.1, h.2.imp id fun ⟨g, cap, cur, h1, h2, h3, h4, h5, h6, h7⟩ => ⟨g, 0, cap, cur, h1, h2, h3, h4, h5, by omega, by simpa using h7⟩⟩
theorem rowO_nil (w : World) (base : Nat) (e : TypeId) (size : Nat) : RowO w base e size (.slice none 0 0) 0 [] := ⟨by simp, .inl ⟨rfl, rfl⟩⟩
theorem RowO.slice (h : RowO w base e size v n xs) : ∃ A c, v = .slice A n c ∧ n ≤ c := by
  rcases h.2 with ⟨rfl, rfl⟩ | ⟨g, o, cap, cur, rfl, _, _, hn, _⟩
  · exact ⟨none, 0, rfl, Nat.le_refl _⟩
  · exact ⟨_, cap, rfl, hn⟩
theorem RowO.base_ (h : RowO w base e size v n xs) (k : Nat) (hk : v.ownBlock = some k) : base ≤ k := by
  rcases h.2 with ⟨rfl, _⟩ | ⟨g, o, cap, cur, rfl, hb, _⟩
  · simp [Value.ownBlock] at hk
  · have : g = k := by simpa [Value.ownBlock] using hk
    omega
theorem RowO.lt (h : RowO w base e size v n xs) (k : Nat) (hk : v.ownBlock = some k) : k < w.heap.size := by
  rcases h.2 with ⟨rfl, _⟩ | ⟨g, o, cap, cur, rfl, hb, hh, _⟩
  · simp [Value.ownBlock] at hk
  · have : g = k := by simpa [Value.ownBlock] using hk
    subst this
    exact blk_lt hh
theorem RowO.move (h : RowO w base e size v n xs) (hm : ∀ k, v.ownBlock = some k → w'.heap[k]? = w.heap[k]?) : RowO w' base e size v n xs := by
  refine ⟨h.1, h.2.imp id fun ⟨g, o, cap, cur, h1, h2, h3, h4⟩ => ⟨g, o, cap, cur, h1, h2, ?_, h4⟩⟩
  rw [hm g (by rw [h1]; rfl)]; exact h3
theorem RowO.upd {S : Nat → Prop} (h : RowO w base e size v n xs) (hu : Upd S w w') (hn : ∀ k, v.ownBlock = some k → ¬ S k) : RowO w' base e size v n xs :=
  h.move fun k hk => hu.block k (h.lt k hk) (hn k hk)
theorem RowO.grew (h : RowO w base e size v n xs) (hu : Grew w w') : RowO w' base e size v n xs := h.move fun k hk => hu.block k (h.lt k hk)
theorem RowO.less {b : Nat} (h : RowO w b e size v n xs) (hb : base ≤ b) : RowO w base e size v n xs :=
  ⟨h.1, h.2.imp id fun ⟨g, o, cap, cur, h1, h2, h3⟩ => ⟨g, o, cap, cur, h1, Nat.le_trans hb h2, h3⟩⟩
theorem RowO.ne {g : Nat} {t : TypeId} {cs : List Value} (h : RowO w base e size v n xs) (hg : Blk w g t cs) (hne : e ≠ t) : v.ownBlock ≠ some g := by
  intro he
  rcases h.2 with ⟨rfl, _⟩ | ⟨g', o, cap, cur, rfl, hb, hh, _⟩
  · simp [Value.ownBlock] at he
  · have : g' = g := by simpa [Value.ownBlock] using he
    subst this
    unfold Blk at hg
    rw [hg] at hh
    injection hh with hh
    injection hh with h1 h2 h3
    exact hne h2.symm
/-- its cells -/
theorem RowO.at_ (h : RowO w base e size v n xs) (hp : 0 < n) : ∃ g o cap, v = .slice (some ⟨g, o, none⟩) n cap ∧ n ≤ cap ∧ base ≤ g ∧ g < w.heap.size ∧ (∀ j, j < n * size → w.cell? ⟨g, o + j, none⟩ = xs[j]?) ∧ ∀ j, w.frozen? ⟨g, j, none⟩ = false := by
  rcases h.2 with ⟨rfl, h0⟩ | ⟨g, o, cap, cur, rfl, hb, hh, hnc, _, hs, hx⟩
  · omega
  · refine ⟨g, o, cap, rfl, hnc, hb, blk_lt hh, fun j hj => ?_, fun j => blk_frozen hh j⟩
    rw [blk_cell hh, ← hx, List.getElem?_take_of_lt hj, List.getElem?_drop, Array.getElem?_toList]
/-- a store into it -/
theorem RowO.set (h : RowO w base e size v n xs) {g o cap : Nat} (hv : v = .slice (some ⟨g, o, none⟩) n cap) (j : Nat) (hj : j < n * size) (u : Value) : RowO (w.setCell ⟨g, o + j, none⟩ u) base e size v n (xs.set j u) := by
  refine ⟨by rw [List.length_set]; exact h.1, ?_⟩
  rcases h.2 with ⟨h1, h0⟩ | ⟨g', o', cap', cur, h1, hb, hh, hnc, hm, hs, hx⟩
  · subst h0; simp at hj
  · rw [hv] at h1
    injection h1 with h1 h2 h3
    injection h1 with h1
    injection h1 with h1 h4
    subst h1 h3 h4
    refine .inr ⟨g, o, cap, cur.setIfInBounds (o + j) u, hv, hb, ?_, hnc, hm, by simpa using hs, ?_⟩
    · exact blk_set hh (o + j) u
    · rw [Array.toList_setIfInBounds, ← hx, List.drop_set, if_neg (by omega), Nat.add_sub_cancel_left, List.take_set]
/-- cut at its head -/
theorem RowO.cut {P : Program} (h : RowO w base e size v n xs) (t : TypeId) (kl : IntKind) {i : TypeInfo} (ht : P.underlying t = some (.slice e)) (hi : P.info? e = some i) (hsz : i.size = size) (m : Nat) (hm : m ≤ n) :
    ∃ v', (∀ W : World, (Instr.slice t v (some (.int kl (m : Int))) none none).run P W = .ok v' W) ∧ RowO w base e size v' (n - m) (xs.drop (m * size)) ∧ (v'.ownBlock = v.ownBlock) := by
  have hel : P.elem t = e := by simp [Program.elem, ht]
  rcases h.2 with ⟨rfl, rfl⟩ | ⟨g, o, cap, cur, rfl, hb, hh, hnc, hcm, hs, hx⟩
  · obtain rfl : m = 0 := by omega
    refine ⟨.slice none 0 0, fun W => ?_, ⟨by simp [h.1], .inl ⟨rfl, rfl⟩⟩, rfl⟩
    simp [Instr.slice, run_underlying ht, sizeOf, typeInfo, hel, hi, asIntOf, go_sem]
  · have hl := h.1
    by_cases hc : cap = m
    · obtain rfl : n = m := by omega
      subst hc
      refine ⟨.slice (some ⟨g, o, none⟩) 0 0, fun W => ?_, ⟨?_, .inr ⟨g, o, 0, cur, by simp, hb, hh, by omega, by omega, by omega, ?_⟩⟩, rfl⟩
      · simp [Instr.slice, run_underlying ht, sizeOf, typeInfo, hel, hi, asIntOf, go_sem]
      · rw [List.length_drop, hl]; simp
      · simp [List.drop_of_length_le (Nat.le_of_eq hl)]
    · refine ⟨.slice (some ⟨g, o + m * size, none⟩) (n - m) (cap - m), fun W => ?_, ⟨?_, .inr ⟨g, o + m * size, cap - m, cur, rfl, hb, hh, by omega, by unfold maxLen at *; omega, ?_, ?_⟩⟩, rfl⟩
      · have h1 : m ≤ cap := by omega
        have h2 : (m : Int) ≤ (n : Int) := by omega
        have h3 : (n : Int) ≤ (cap : Int) := by omega
        have h4 : ¬ (cap : Int) - (m : Int) = 0 := by omega
        have h5 : ¬ (cap - m = 0) := by omega
        have h6 : ((n : Int) - (m : Int)).toNat = n - m := by omega
        have h7 : ((cap : Int) - (m : Int)).toNat = cap - m := by omega
        simp [Instr.slice, run_underlying ht, sizeOf, typeInfo, hel, hi, asIntOf, go_sem, h1, h2, h3, h4, h5, h6, h7, hm, hnc, Addr.add, hsz]
        rw [if_neg hc]
        congr 1
        split
        · rename_i hz; rw [hz]; rfl
        · rfl
      · rw [List.length_drop, hl, Nat.sub_mul]
      · rw [Nat.sub_mul]
        have := Nat.mul_le_mul_right size (show m ≤ cap by omega)
        omega
      · rw [← hx, List.drop_take, List.drop_drop, Nat.sub_mul]
end
/-- one element, of some cells in a block of its own, behind a row of one's own -/
theorem app_rowO {P : Program} (W : World) (base : Nat) (t e ty : TypeId) (z : Value) (size bytes : Nat) (ht : P.underlying t = some (.slice e)) (hinfo : (P.info? e).map (fun i => (i.zero, i.size, i.bytes)) = some (some z, size, bytes)) (hz : z.cells.size = size) (hs0 : 0 < size) (hb0 : 0 < bytes)
    (v : Value) (n : Nat) (xs : List Value) (g1 : Nat) (cs : List Value) (hcs : cs.length = size) (h1 : ∀ u ∈ cs, u.oneCell' = true) (HO : RowO W base e size v n xs) (HB : Blk W g1 e cs) (hbase : base ≤ W.heap.size) (hl : (n + 1) * bytes ≤ 140737488355328) :
    ∃ v1 w1, (Builtin.append_ #[t, t] ty #[v, .slice (some ⟨g1, 0, none⟩) 1 1]).run P W = .ok v1 w1 ∧ RowO w1 base e size v1 (n + 1) (xs ++ cs) ∧ W.grownBy w1 v.ownBlock ∧ (v1.ownBlock = v.ownBlock ∨ ∃ k, v1.ownBlock = some k ∧ W.heap.size ≤ k) := by
  obtain ⟨i0, hi, hzz⟩ := Option.map_eq_some_iff.1 hinfo
  simp only [Prod.mk.injEq] at hzz
  obtain ⟨hz0, hz1, hz2⟩ := hzz
  subst hz1
  subst hz2
  have hlen : n + 1 ≤ 140737488355328 := Nat.le_trans (Nat.le_mul_of_pos_right _ hb0) hl
  have hnews : ∀ j u, cs[j]? = some u → W.cell? ((⟨g1, 0, none⟩ : Addr).add j) = some u := fun j u hu => by rw [add_plain, HB.at_]; simpa using hu
  have hl2 : (xs ++ cs).length = (n + 1) * i0.size := by rw [List.length_append, HO.1, hcs, Nat.add_mul, Nat.one_mul]
  rcases HO.2 with ⟨rfl, rfl⟩ | ⟨g, o, cap, cur, rfl, hbg, hg, hnc, hcm, hcs2, htake⟩
  · obtain ⟨v1, w1, hr, h2, h3, h4⟩ := app_cells (P := P) W base t e ty z i0.size i0.bytes ht hinfo hz hs0 hb0 (.slice none 0 0) 0 xs g1 cs hcs h1 ⟨HO.1, .inl ⟨rfl, rfl⟩⟩ HB hbase hl
    exact ⟨v1, w1, hr, rowO_of_own h2, h3, h4⟩
  · by_cases hroom : n + 1 ≤ cap
    · have hmul := Nat.mul_le_mul_right i0.size hroom
      have hfit : o + n * i0.size + 0 + cs.length ≤ cur.size := by rw [hcs]; rw [Nat.add_mul, Nat.one_mul] at hmul; omega
      have hf := run_firstCells_some (P := P) W i0.size 1 ⟨g1, 0, none⟩ 1 1 cs (by rw [hcs]; simp) hnews
      have hst := run_storeCells_at P g (o + n * i0.size) e cs 0 cur W hg hfit h1
      simp only [Nat.add_zero] at hst
      refine ⟨.slice (some ⟨g, o, none⟩) (n + 1) cap, W.setRow g (cur.toList.take (o + n * i0.size) ++ cs ++ cur.toList.drop (o + n * i0.size + cs.length)).toArray, ?_, ⟨hl2, .inr ⟨g, o, cap, _, rfl, hbg, setRow_heap W g cur _ e _ hg, hroom, hcm, ?_, ?_⟩⟩, ⟨rfl, rfl, rfl, by simp, fun k _ hk => setRow_other W g k _ (fun e => hk (by simp [Value.ownBlock, e]))⟩, .inl rfl⟩
      · have e9 : (⟨g, o, none⟩ : Addr).add (n * i0.size) = ⟨g, o + n * i0.size, none⟩ := by simp [Addr.add]
        simp [Builtin.append_, run_underlying ht, sizeOf, typeInfo, hi, Builtin.lenOf, hroom, hf, e9, hst]
      · simp only [List.size_toArray, List.length_append, List.length_take, List.length_drop, Array.length_toList]
        omega
      · have hh : (List.take (o + n * i0.size) cur.toList).length = o + n * i0.size := by rw [List.length_take, Array.length_toList]; omega
        rw [List.append_assoc, List.drop_append_of_le_length (by rw [hh]; omega), ← List.append_assoc, List.drop_take, Nat.add_sub_cancel_left, htake, ← hl2]
        exact List.take_left
    · have holds : ∀ j u, xs[j]? = some u → W.cell? ((⟨g, o, none⟩ : Addr).add j) = some u := fun j u hu => by
        have hj : j < n * i0.size := by
          rcases Nat.lt_or_ge j xs.length with h | h
          · rw [HO.1] at h; exact h
          · rw [List.getElem?_eq_none h] at hu; cases hu
        rw [show (⟨g, o, none⟩ : Addr).add j = ⟨g, o + j, none⟩ from by simp [Addr.add], blk_cell hg, ← hu, ← htake, List.getElem?_take_of_lt hj, List.getElem?_drop, Array.getElem?_toList]
      have hr := run_append_grow (P := P) W t ty e i0 z ht hi hz0 ⟨g, o, none⟩ n cap xs HO.1 holds ⟨g1, 0, none⟩ 1 1 cs (by rw [hcs]; simp) hnews (by omega) (by omega) (growslice_fits (by omega) hl)
      have hge := grownCap_ge W (n + 1) cap e
      have hcm2 : grownCap W (n + 1) cap e ≤ maxLen := grownCap_le_maxLen W (n + 1) cap e (by unfold maxLen; omega)
      refine ⟨_, _, hr, ⟨hl2, .inr ⟨W.heap.size, 0, _, _, rfl, hbase, heap_alloc_new W.drew _, hge, hcm2, ?_, ?_⟩⟩, ⟨rfl, rfl, rfl, by simp, fun k hk _ => Below.heap_alloc W.drew _ k hk⟩, .inr ⟨_, rfl, Nat.le_refl _⟩⟩
      · simp only [Array.size_append, List.size_toArray, size_zeroCells, hz, HO.1, hcs]
        have : (n + 1) * i0.size = n * i0.size + i0.size := by rw [Nat.add_mul, Nat.one_mul]
        have h9 : grownCap W (n + 1) cap e * i0.size = (n + 1) * i0.size + (grownCap W (n + 1) cap e - (n + 1)) * i0.size := by rw [← Nat.add_mul]; congr 1; omega
        omega
      · simp only [Array.toList_append, List.append_assoc, List.drop_zero]
        rw [← List.append_assoc, ← hl2]
        exact List.take_left
end Go.Proofs.Ytmifoihfpjomaaa.F

-- RegB
namespace Go.Proofs.YtmifoihfpjomaaaR
open Go Go.RowKit
section
variable (P : Program) (Q : Exit → Act → World → Prop) (R Rp : World → World → Prop) (V : Nat → World → Value → Prop) (a0 : Act) (w0 : World) (E : Act → World → Prop)
def PhGoalF (o : Oper) (g : GuardT) (i : Nat) (r : Reads) : Phase → Prop
  | .plain => ∀ a w, R w0 w → Deps V a0 a w r → OpGoal P Q R V o g i a w
  | .float => ∀ a w, (R w0 w ∨ ∃ w1, R w0 w1 ∧ Rp w1 w) → Deps V a0 a w r → OpGoal P Q (fun w w' => w' = w) V o g i a w
  | .big => o.guard = none ∧ ∀ a w, R w0 w → Deps V a0 a w r → ∀ K : Act → World → Prop, (∀ v w', Rp w w' → V i w' v → K (a.put o.dst v) w') → o.wp P a w K Q
def PhHoldF : Nat → List Oper → List (Reads × GuardT) → List Phase → Prop
  | i, o :: os, (r, g) :: rs, k :: ks => PhGoalF P Q R Rp V a0 w0 o g i r k ∧ PhHoldF (i + 1) os rs ks
  | _, _, _, _ => True
end

section
variable {P : Program} {ops : Array Oper} {Q : Exit → Act → World → Prop} {R Rp : World → World → Prop} {V : Nat → World → Value → Prop} {a0 : Act} {w0 : World} {E : Act → World → Prop}
theorem phHold_atF : ∀ (os : List Oper) (rs : List (Reads × GuardT)) (ks : List Phase) (k i : Nat) (o : Oper) (r : Reads) (g : GuardT) (p : Phase), PhHoldF P Q R Rp V a0 w0 k os rs ks → os[i]? = some o → rs[i]? = some (r, g) → ks[i]? = some p →
    PhGoalF P Q R Rp V a0 w0 o g (k + i) r p
  | [], _, _, _, i, o, r, g, p, _, ho, _, _ => by simp at ho
  | o' :: os, [], _, _, i, o, r, g, p, _, _, hr, _ => by simp at hr
  | o' :: os, (r', g') :: rs, [], _, i, o, r, g, p, _, _, _, hk => by simp at hk
  | o' :: os, (r', g') :: rs, p' :: ks, k, 0, o, r, g, p, h, ho, hr, hk => by
    simp at ho hr hk
    obtain ⟨rfl, rfl⟩ := hr
    subst ho
    subst hk
    exact h.1
  | o' :: os, (r', g') :: rs, p' :: ks, k, i + 1, o, r, g, p, h, ho, hr, hk => by
    have := phHold_atF os rs ks (k + 1) i o r g p h.2 (by simpa using ho) (by simpa using hr) (by simpa using hk)
    rw [show k + 1 + i = k + (i + 1) from by omega] at this
    exact this
theorem wpAny_invF {A : List Nat} {reads : List (Reads × GuardT)} {ks : List Phase} (hA : edgesOk ops A = true) (hP : pairsOk ops A = true) (hR : readsOk ops reads a0.tmps.size = true) (hT : tailOk ops A reads.length = true)
    (hrf : ∀ w, R w w) (htr : ∀ a b c, R a b → R b c → R a c) (hK : phaseOk A ks reads.length = true)
    (hst : ∀ i, ks[i]? ≠ some .big → ∀ w w' v, R w w' ∨ Rp w w' → V i w v → V i w' v)
    (hops : PhHoldF P Q R Rp V a0 w0 0 ops.toList reads ks)
    (hend : ∀ listed a w, (∀ j, listed.getD j false = decide (j < reads.length)) → InvB ops reads.length R Rp V ks a0 w0 listed a w → wpList P ops Q (ops.toList.drop reads.length) a w) :
    ∀ (fuel : Nat) (listed : Array Bool) (a : Act) (w : World), listed.toList.count false ≤ fuel → InvB ops reads.length R Rp V ks a0 w0 listed a w → wpAny P .any ops Q fuel listed a w := by
  have hT0 := hT
  simp only [tailOk, Bool.and_eq_true, decide_eq_true_eq, List.all_eq_true, Bool.or_eq_true, List.mem_range] at hT0
  -- when all of the head has come up
  have fin : ∀ (fuel : Nat) (listed : Array Bool) (a : Act) (w : World), listed.toList.count false ≤ fuel → InvB ops reads.length R Rp V ks a0 w0 listed a w → (∀ j, j < reads.length → listed.getD j false = true) → wpAny P .any ops Q fuel listed a w := by
    intro fuel listed a w hf hi hall
    have hl : ∀ j, listed.getD j false = decide (j < reads.length) := by
      intro j
      rcases Nat.lt_or_ge j reads.length with h | h
      · rw [hall j h]; simp [h]
      · rw [hi.tail j h]; simp; omega
    refine wpAny_tail hA hT fuel reads.length listed a w (Nat.le_refl _) ?_ hT0.1 hi.lsize hl (hend listed a w hl hi)
    -- those that are not listed are as many as the tail is long
    have : (listed.toList.drop reads.length).count false = listed.size - reads.length := by
      have h1 : listed.toList.drop reads.length = List.replicate (listed.size - reads.length) false := by
        refine List.ext_getElem (by simp) fun j h1 h2 => ?_
        simp only [List.getElem_drop, List.getElem_replicate]
        have h3 : reads.length + j < listed.size := by simp at h1; omega
        have h4 := hi.tail (reads.length + j) (by omega)
        simpa [h3] using h4
      rw [h1, List.count_replicate_self]
    have h2 : (listed.toList.drop reads.length).count false ≤ listed.toList.count false := List.Sublist.count_le _ (List.drop_sublist _ _)
    have := hi.lsize
    omega
  -- before that, nothing of the tail may come up
  have low : ∀ (listed : Array Bool), listed.size = ops.size → Closed ops listed → ∀ i, i ∈ Region.ready .any ops listed → reads.length ≤ i → ∀ j, j < reads.length → listed.getD j false = true := by
    intro listed hs hc i hi hm j hj
    obtain ⟨hun, o, ho, hd⟩ := mem_ready.1 hi
    have hisz := (Array.getElem?_eq_some_iff.1 ho).1
    exact closed_anc hA hc i o ho hd j ((hT0.2 i hisz).resolve_left (by omega) j (by omega))
  intro fuel
  induction fuel with
  | zero =>
    intro listed a w hf hi
    refine fin 0 listed a w hf hi fun j hj => ?_
    have hjs : j < listed.size := by have := hi.lsize; omega
    cases hl : listed.getD j false with
    | true => rfl
    | false =>
      exfalso
      have hv : listed[j] = false := by simpa [hjs] using hl
      have : 0 < listed.toList.count false := List.count_pos_iff.2 (by rw [← hv]; simp)
      omega
  | succ fuel ih =>
    intro listed a w hf hi
    by_cases hall : ∀ j, j < reads.length → listed.getD j false = true
    · exact fin (fuel + 1) listed a w hf hi hall
    refine ⟨fun h => absurd (fun j hj => all_of_ready rfl hA hi.lsize h j (by omega)) hall, fun i hir => ?_⟩
    have him : i < reads.length := by
      rcases Nat.lt_or_ge i reads.length with h | h
      · exact h
      · exact absurd (low listed hi.lsize hi.closed i hir h) hall
    obtain ⟨hun, o, ho, hdeps⟩ := mem_ready.1 hir
    have hisz : i < ops.size := (Array.getElem?_eq_some_iff.1 ho).1
    have hun' : listed.getD i false = false := by rw [getD_irrel (by rw [hi.lsize]; exact hisz) false true]; exact hun
    simp only [readsOk, List.all_eq_true] at hR
    have hRi := hR i (List.mem_range.2 him)
    have hri : reads[i]? = some (reads[i]'(by omega)) := List.getElem?_eq_getElem (by omega)
    generalize hrg : reads[i]'(by omega) = rg at hri
    obtain ⟨r, g⟩ := rg
    rw [ho, hri] at hRi
    simp only [Bool.and_eq_true, List.all_eq_true] at hRi
    obtain ⟨⟨hr, hdst⟩, hg⟩ := hRi
    -- ancestors of i are listed; descendants are not
    have hanc : ∀ k, (A.getD i 0).testBit k = true → listed.getD k false = true := closed_anc hA hi.closed i o ho hdeps
    have hdesc : ∀ j oj, ops[j]? = some oj → (A.getD j 0).testBit i = true → listed.getD j false = false := by
      intro j oj hoj hb
      cases hl : listed.getD j false with
      | false => rfl
      | true =>
        have := closed_anc hA hi.closed j oj hoj (hi.closed j oj hoj hl) i hb
        rw [this] at hun'; cases hun'
    have pair : ∀ i' j' oi' oj', i' < j' → ops[i']? = some oi' → ops[j']? = some oj' → (A.getD j' 0).testBit i' = true ∨ ((∀ t, oi'.dst = some t → t ∉ names ops oj') ∧ ∀ t, oj'.dst = some t → t ∉ oi'.looksAt ops) := by
      intro i' j' oi' oj' hlt hoi hoj
      have h1 := List.all_eq_true.1 hP j' (List.mem_range.2 (Array.getElem?_eq_some_iff.1 hoj).1)
      simp only [hoj, List.all_eq_true, List.mem_range] at h1
      have h2 := h1 i' hlt
      simp only [hoi, Bool.or_eq_true, Bool.and_eq_true] at h2
      rcases h2 with h2 | ⟨h2, h3⟩
      · exact .inl h2
      · refine .inr ⟨fun t ht => ?_, fun t ht => ?_⟩
        · simp [ht] at h2; exact h2
        · simp [ht] at h3; exact h3
    -- the writers that are listed of what i looks at are those ahead of it
    have hlook : ∀ t ∈ o.looksAt ops, lastW ops (fun j => listed.getD j false) t = lastW ops (fun j => decide (j < i)) t := by
      intro t ht
      refine lastW_congr fun j oj hoj hd => ?_
      rcases Nat.lt_trichotomy j i with hlt | rfl | hgt
      · have := (pair j i oj o hlt hoj ho).resolve_right (fun h => h.1 t hd (List.mem_append_right _ ht))
        simp [hlt, hanc j this]
      · simp [hun']
      · have := (pair i j o oj hgt ho hoj).resolve_right (fun h => h.2 t hd ht)
        rw [hdesc j oj hoj this]
        symm; simp; omega
    have hD : Deps V a0 a w r := by
      refine deps_of a w r fun ⟨t, j⟩ hx => ?_
      have h1 := hr (t, j) hx
      simp only [beq_iff_eq, List.contains_iff_mem] at h1
      have h2 := hi.tmps t
      rw [hlook t h1.1, h1.2] at h2
      cases j <;> exact h2
    simp only [phaseOk, Bool.and_eq_true, beq_iff_eq, List.all_eq_true, List.mem_range] at hK
    have hki : ks[i]? = some (ks[i]'(by omega)) := List.getElem?_eq_getElem (by omega)
    generalize hkk : ks[i]'(by omega) = kd at hki
    have hgoal := phHold_atF ops.toList reads ks 0 i o r g kd hops (by simpa using ho) hri hki
    rw [Nat.zero_add] at hgoal
    have big_all : ∀ p, ks[p]? = some .big → ∀ j, j < reads.length → j ≠ p → ks[j]? = some .float ∨ (A.getD p 0).testBit j = true := by
      intro p hp j hj hne
      have hpl : p < reads.length := by
        have := (List.getElem?_eq_some_iff.1 hp).1
        omega
      have := hK.2 p hpl
      rw [hp] at this
      simp only [List.all_eq_true, List.mem_range, Bool.or_eq_true, beq_iff_eq] at this
      rcases this j hj with (h | h) | h
      · exact absurd h hne
      · exact .inl h
      · exact .inr h
    have noBig : kd ≠ .float → ¬ BigIn ks listed := by
      rintro hne ⟨p, hp, hl⟩
      by_cases hip : i = p
      · subst hip; rw [hun'] at hl; cases hl
      · rcases big_all p hp i him hip with h | h
        · rw [hki] at h; exact hne (Option.some.inj h)
        · have hpo : p < ops.size := by
            rcases Nat.lt_or_ge p ops.size with h' | h'
            · exact h'
            · rw [show listed.getD p false = false from by simp [Array.getElem?_eq_none (show listed.size ≤ p by rw [hi.lsize]; exact h')]] at hl; cases hl
          have := closed_anc hA hi.closed p _ (Array.getElem?_eq_getElem hpo) (hi.closed p _ (Array.getElem?_eq_getElem hpo) hl) i h
          rw [this] at hun'; cases hun'
    have bigSet : ∀ {k : Phase}, kd = k → k ≠ .big → (BigIn ks (listed.setIfInBounds i true) ↔ BigIn ks listed) := by
      intro k hk hne
      constructor
      · rintro ⟨p, hp, hl⟩
        by_cases hip : i = p
        · subst hip; rw [hki] at hp; exact absurd (hk.symm.trans (Option.some.inj hp)) hne
        · rw [getD_set_other _ hip] at hl; exact ⟨p, hp, hl⟩
      · rintro ⟨p, hp, hl⟩
        by_cases hip : i = p
        · subst hip; rw [hun'] at hl; cases hl
        · exact ⟨p, hp, by rw [getD_set_other _ hip]; exact hl⟩
    have notBig : ∀ j, listed.getD j false = true → ¬ BigIn ks listed → ks[j]? ≠ some .big := fun j hl hb h => hb ⟨j, h, hl⟩
    -- behind operation i
    have next : ∀ v w', (∀ j, j ≠ i → listed.getD j false = true → ∀ u, V j w u → V j w' u) → (¬ BigIn ks (listed.setIfInBounds i true) → R w0 w') → (BigIn ks (listed.setIfInBounds i true) → ∃ w1, R w0 w1 ∧ Rp w1 w') → V i w' v → wpAny P .any ops Q fuel (listed.setIfInBounds i true) (a.put o.dst v) w' := by
      intro v w' hww he hl hv
      refine ih _ _ _ (unlisted_set hun fuel hf) ⟨he, hl, ?_, ?_, by simp [hi.lsize], ?_, fun j hj => ?_, ?_⟩
      · cases hd : o.dst <;> simp [Act.put, hi.size]
      · cases hd : o.dst <;> simp [Act.put, hi.defers]
      · intro j oj hoj hl e he hb
        by_cases hji : i = j
        · subst hji
          rw [ho] at hoj
          obtain rfl := Option.some.inj hoj
          by_cases hei : i = e.on
          · rw [← hei]; exact getD_set_self (by rw [hi.lsize]; exact hisz) _
          · rw [getD_set_other _ hei]; exact hdeps e he hb
        · rw [getD_set_other _ hji] at hl
          by_cases hei : i = e.on
          · rw [← hei]; exact getD_set_self (by rw [hi.lsize]; exact hisz) _
          · rw [getD_set_other _ hei]; exact hi.closed j oj hoj hl e he hb
      · rw [getD_set_other _ (by omega)]; exact hi.tail j hj
      · intro t
        by_cases hd : o.dst = some t
        · rw [lastW_set ho hd (p := fun j => (listed.setIfInBounds i true).getD j false) (getD_set_self (by rw [hi.lsize]; exact hisz) _) (fun j oj hoj hdj hlt => by
            have := (pair i j o oj hlt ho hoj).resolve_right (fun h => h.1 t hd (by simp [names, hdj]))
            rw [getD_set_other _ (by omega)]
            exact hdesc j oj hoj this)]
          have htn : t < a.tmps.size := by rw [hi.size]; simpa [hd] using hdst
          simp only [hd, Act.put]
          simpa [htn] using hv
        · rw [lastW_congr (q := fun j => listed.getD j false) (fun j oj hoj hdj => by
            by_cases hji : i = j
            · subst hji; rw [ho] at hoj; obtain rfl := Option.some.inj hoj; exact absurd hdj hd
            · exact getD_set_other _ hji)]
          have h2 := hi.tmps t
          have same : (a.put o.dst v).tmps[t]?.getD undef = a.tmps[t]?.getD undef := by
            cases hdd : o.dst with
            | none => rfl
            | some d =>
              have hne : d ≠ t := fun e => hd (by rw [hdd, e])
              simp [Act.put, Array.getElem?_setIfInBounds_ne hne]
          rw [same]
          revert h2
          cases hlw : lastW ops (fun j => listed.getD j false) t with
          | none => exact id
          | some j =>
            have hlj := lastW_listed hlw
            refine hww j ?_ hlj _
            intro e
            subst e
            rw [hun'] at hlj
            cases hlj
    unfold wpOp
    simp only [ho]
    cases kd with
    | big =>
      obtain ⟨hgn, hgoal⟩ := hgoal
      have hnb := noBig (by simp)
      rw [if_pos (by simp [Region.wanted, hgn])]
      refine .inl (hgoal a w (hi.early hnb) hD _ fun v w' hrp hv => ?_)
      have hbig : BigIn ks (listed.setIfInBounds i true) := ⟨i, hki, getD_set_self (by rw [hi.lsize]; exact hisz) _⟩
      exact next v w' (fun j _ hl u hu => hst j (notBig j hl hnb) w w' u (.inr hrp) hu) (fun h => absurd hbig h) (fun _ => ⟨w, hi.early hnb, hrp⟩) hv
    | plain =>
      have hnb := noBig (by simp)
      have hgoal := hgoal a w (hi.early hnb) hD
      have hs := bigSet rfl (by simp)
      have nx : ∀ v w', R w w' → V i w' v → wpAny P .any ops Q fuel (listed.setIfInBounds i true) (a.put o.dst v) w' := fun v w' hr hv =>
        next v w' (fun j _ hl u hu => hst j (notBig j hl hnb) w w' u (.inl hr) hu) (fun _ => htr _ _ _ (hi.early hnb) hr) (fun h => absurd (hs.1 h) hnb) hv
      cases hgg : o.guard with
      | none =>
        rw [hgg] at hg
        cases g with
        | some _ => simp at hg
        | none =>
          rw [if_pos (by simp [Region.wanted, hgg])]
          exact .inl (hgoal _ nx)
      | some kw =>
        obtain ⟨k, want⟩ := kw
        rw [hgg] at hg
        cases g with
        | none => simp at hg
        | some tw =>
          obtain ⟨t, want'⟩ := tw
          simp only [Bool.and_eq_true, beq_iff_eq] at hg
          obtain ⟨rfl, hk⟩ := hg
          have hw := wanted_iff (a := a) hgg hk
          by_cases hv : a.tmps[t]?.getD undef = .bool want
          · rw [if_pos (hw.2 hv)]
            exact .inl (hgoal.1 hv _ nx)
          · rw [if_neg (fun h => hv (hw.1 h))]
            exact nx undef w (hrf w) (hgoal.2 hv)
    | float =>
      have hgoal := hgoal a w (by
        by_cases hbi : BigIn ks listed
        · exact .inr (hi.late hbi)
        · exact .inl (hi.early hbi)) hD
      have hs := bigSet rfl (by simp)
      have nx : ∀ v w', w' = w → V i w' v → wpAny P .any ops Q fuel (listed.setIfInBounds i true) (a.put o.dst v) w' := fun v w' hr hv => by
        subst hr
        exact next v w' (fun j _ _ u hu => hu) (fun h => hi.early (fun hb => h (hs.2 hb))) (fun h => hi.late (hs.1 h)) hv
      cases hgg : o.guard with
      | none =>
        rw [hgg] at hg
        cases g with
        | some _ => simp at hg
        | none =>
          rw [if_pos (by simp [Region.wanted, hgg])]
          exact .inl (hgoal _ nx)
      | some kw =>
        obtain ⟨k, want⟩ := kw
        rw [hgg] at hg
        cases g with
        | none => simp at hg
        | some tw =>
          obtain ⟨t, want'⟩ := tw
          simp only [Bool.and_eq_true, beq_iff_eq] at hg
          obtain ⟨rfl, hk⟩ := hg
          have hw := wanted_iff (a := a) hgg hk
          by_cases hv : a.tmps[t]?.getD undef = .bool want
          · rw [if_pos (hw.2 hv)]
            exact .inl (hgoal.1 hv _ nx)
          · rw [if_neg (fun h => hv (hw.1 h))]
            exact nx undef w rfl (hgoal.2 hv)
end

section
variable {P : Program} {Q : Exit → Act → World → Prop} {V : Nat → World → Value → Prop} {a0 : Act} {w0 : World} {E : Act → World → Prop}
theorem wp_region_bigF {id : Nat} {n : Nat} (ks : List Phase) (V : Nat → World → Value → Prop) (R Rp : World → World → Prop) (reads : List (Reads × GuardT)) (fin : List (Tmp × Nat)) {l : List Oper} (tail : List Oper) (hn : a0.tmps.size = n) (hk : regionOk l.toArray reads fin n = true) (hd : l.drop reads.length = tail) (hm : P.follows .mixedOrders = true)
    (hrf : ∀ w, R w w) (htr : ∀ a b c, R a b → R b c → R a c) (hK : phaseOk (mkAnc l) ks reads.length = true) (hb : ks.contains .big = true)
    (hst : ∀ i, ks[i]? ≠ some .big → ∀ w w' v, R w w' ∨ Rp w w' → V i w v → V i w' v)
    (hops : PhHoldF P Q R Rp V a0 w0.drew 0 l reads ks)
    (hend : EndHold (fun w w' => ∃ w1, R w w1 ∧ Rp w1 w') V w0.drew (wpList P l.toArray Q tail) (fun _ => True) fin a0) :
    (Code.region id l.toArray true).wp P Q a0 w0 := by
  subst hn
  subst hd
  simp only [regionOk, Bool.and_eq_true] at hk
  obtain ⟨⟨⟨⟨hA, hP⟩, hR⟩, hF⟩, hT⟩ := hk
  refine wp_region_any hm ?_
  refine wpAny_invF (Rp := Rp) (ks := ks) (w0 := w0.drew) hA hP hR hT hrf htr hK hst hops ?_ _ _ _ _ (Nat.le_trans List.count_le_length (by simp)) ⟨fun _ => hrf _, ?_, rfl, rfl, by simp, ?_, ?_, ?_⟩
  · intro listed a w hl hi
    simp only [finalOk, Bool.and_eq_true, List.all_eq_true, beq_iff_eq] at hF
    have hF2 : ∀ (j : Nat) (o : Oper) (t : Tmp), l.toArray[j]? = some o → j < reads.length → o.dst = some t → t ∈ fin.map (·.1) := by
      intro j o t ho hj hd
      have := hF.2 o (by
        have h1 : (l.take reads.length)[j]? = some o := by rw [List.getElem?_take_of_lt hj]; simpa using ho
        exact List.mem_of_getElem? h1)
      rw [hd] at this
      simpa using this
    have hlast : ∀ t, lastW l.toArray (fun j => listed.getD j false) t = lastW l.toArray (fun j => decide (j < reads.length)) t := fun t =>
      lastW_congr fun j o ho _ => hl j
    have e : fin.foldl (fun a' x => a'.put (some x.1) ((fun t => a.tmps[t]?.getD undef) x.1)) a0 = a := by
      have h := foldl_put (fun t => a.tmps[t]?.getD undef) fin a0
      have hd : (fin.foldl (fun a' x => a'.put (some x.1) ((fun t => a.tmps[t]?.getD undef) x.1)) a0).defers = a.defers := h.2.1.trans hi.defers.symm
      have ht : (fin.foldl (fun a' x => a'.put (some x.1) ((fun t => a.tmps[t]?.getD undef) x.1)) a0).tmps = a.tmps := by
        refine Array.ext_getElem? fun t => ?_
        rcases Nat.lt_or_ge t a0.tmps.size with hlt | hge
        · rw [h.2.2 t hlt]
          have hat : a.tmps[t]? = some (a.tmps[t]?.getD undef) := by
            have : t < a.tmps.size := by rw [hi.size]; exact hlt
            simp [this]
          by_cases hm : t ∈ fin.map (·.1)
          · rw [if_pos hm]; exact hat.symm
          · rw [if_neg hm]
            have h2 := hi.tmps t
            have hnone : lastW l.toArray (fun j => listed.getD j false) t = none := by
              unfold lastW
              rw [List.find?_eq_none]
              intro j _
              cases ho : l.toArray[j]? with
              | none => simp
              | some o =>
                by_cases hdo : o.dst = some t
                · rcases Nat.lt_or_ge j reads.length with hj | hj
                  · exact absurd (hF2 j o t ho hj hdo) hm
                  · simp only [hi.tail j hj]; simp
                · simp [hdo]
            rw [hnone] at h2
            rw [hat, h2]
            simp [hlt]
        · rw [Array.getElem?_eq_none (by rw [h.1]; exact hge), Array.getElem?_eq_none (by rw [hi.size]; exact hge)]
      generalize fin.foldl (fun a' x => a'.put (some x.1) ((fun t => a.tmps[t]?.getD undef) x.1)) a0 = z at hd ht
      cases z; cases a; simp_all
    have hbin : BigIn ks listed := by
      have hmem := List.contains_iff_mem.1 hb
      obtain ⟨p, hp⟩ := List.mem_iff_getElem?.1 hmem
      refine ⟨p, hp, ?_⟩
      rw [hl p]
      have h1 := (List.getElem?_eq_some_iff.1 hp).1
      have h2 := hK
      simp only [phaseOk, Bool.and_eq_true, beq_iff_eq] at h2
      simp; omega
    have := endHold_at (fun t => a.tmps[t]?.getD undef) w (hi.late hbin) fin _ a0 hend trivial (fun x hx => by
      have h1 := hF.1 x hx
      have h2 := hi.tmps x.1
      rw [hlast, h1] at h2
      exact h2)
    rw [e] at this
    exact this
  · rintro ⟨p, _, hp⟩
    exfalso
    rcases Nat.lt_or_ge p l.length with h | h
    · simp [h] at hp
    · simp [h] at hp
  · intro j o ho hl
    exfalso
    have hj : j < l.length := by simpa using (Array.getElem?_eq_some_iff.1 ho).1
    simp [hj] at hl
  · intro j _
    rcases Nat.lt_or_ge j l.length with h | h
    · simp [h]
    · simp [h]
  · intro t
    have : lastW l.toArray (fun j => (Array.replicate l.toArray.size false).getD j false) t = none := by
      unfold lastW
      rw [List.find?_eq_none]
      intro j hj
      have hj : j < l.length := by simpa using hj
      simp [hj]
    rw [this]


end

theorem region_bigF {P : Program} {Q : Exit → Act → World → Prop} {a0 : Act} {w0 : World} {id : Nat} {n : Nat} {l : List Oper} (Rp : World → World → Prop) (ks : List Phase) (Vs : List (World → Value → Prop)) (reads : List (Reads × GuardT)) (fin : List (Tmp × Nat))
    (hn : a0.tmps.size = n) (hk : regionOk l.toArray reads fin n = true) (hK : phaseOk (mkAnc l) ks reads.length = true) (hb : ks.contains .big = true) (hm : P.follows .mixedOrders = true) (hv : ks.length = Vs.length)
    (hst : StableB Grew Rp ks Vs)
    (hops : PhHoldF P Q Grew Rp (at_ Vs) a0 w0.drew 0 l reads ks)
    (hend : EndHold (fun w w' => ∃ w1, Grew w w1 ∧ Rp w1 w') (at_ Vs) w0.drew (Later (wpList P l.toArray Q (dropN reads l))) (fun _ => True) fin a0) :
    (Code.region id l.toArray true).wp P Q a0 w0 :=
  wp_region_bigF ks (at_ Vs) Grew Rp reads fin _ hn hk (dropN_eq reads l) hm Grew.refl (fun _ _ _ => Grew.trans) hK hb (stableB_at ks Vs hv hst) hops (endHold_later _ _ _ hend)
end Go.Proofs.YtmifoihfpjomaaaR

-- AudE
namespace Go.Proofs.Ytmifoihfpjomaaa.F
open Go Go.RowKit Go.Proofs.YtmifoihfpjomaaaW.PrintWords Go.Proofs.YtmifoihfpjomaaaW.PrintLast Go.Proofs.YtmifoihfpjomaaaW.PrintMore Go.Proofs.YtmifoihfpjomaaaM Go.Proofs.YtmifoihfpjomaaaR
attribute [local go_sem] max2_int min2_int max_two min_two
set_option linter.unusedSimpArgs false
set_option linter.unusedVariables false
set_option maxRecDepth 100000
def enc5 (e : En) : List Value := [.int .i64 e.f0, .int .i64 e.f1, .int .i64 e.f2, .string e.f3, .int .i64 e.f4]
def ens (l : List En) : List Value := l.flatMap enc5
theorem ens_snoc (l : List En) (e : En) : ens (l ++ [e]) = ens l ++ enc5 e := by simp [ens]
theorem ens_cons (e : En) (l : List En) : ens (e :: l) = enc5 e ++ ens l := by simp [ens]
theorem ens_len (l : List En) : (ens l).length = l.length * 5 := by
  induction l with
  | nil => rfl
  | cons x l ih => rw [ens_cons, List.length_append, ih, List.length_cons]; simp [enc5]; omega
theorem ens_at (l : List En) : ∀ (i : Nat) (e : En), l[i]? = some e → ∀ j, j < 5 → (ens l)[i * 5 + j]? = (enc5 e)[j]? := by
  induction l with
  | nil => intro i x h; simp at h
  | cons y l ih =>
    intro i e h j hj
    rw [ens_cons]
    cases i with
    | zero =>
      obtain rfl : y = e := by simpa using h
      rw [Nat.zero_mul, Nat.zero_add, List.getElem?_append_left (by simp [enc5]; omega)]
    | succ i =>
      rw [List.getElem?_append_right (by simp [enc5]; omega)]
      have := ih i e (by simpa using h) j hj
      rw [← this]
      congr 1
      simp [enc5]; omega
theorem ens_drop (l : List En) : ∀ m, (ens l).drop (m * 5) = ens (l.drop m) := by
  induction l with
  | nil => intro m; simp [ens]
  | cons y l ih =>
    intro m
    cases m with
    | zero => simp
    | succ m =>
      rw [ens_cons, show (m + 1) * 5 = 5 + m * 5 from by omega, ← List.drop_drop, show List.drop 5 (enc5 y ++ ens l) = ens l from rfl, ih m]
      rfl
theorem ens_one (l : List En) : ∀ u ∈ ens l, u.oneCell' = true := by
  intro u hu
  unfold ens at hu
  obtain ⟨x, -, hx⟩ := List.mem_flatMap.1 hu
  simp [enc5] at hx
  rcases hx with rfl | rfl | rfl | rfl | rfl <;> rfl
theorem enc5_one (e : En) : ∀ u ∈ enc5 e, u.oneCell' = true := by
  intro u hu
  simp [enc5] at hu
  rcases hu with rfl | rfl | rfl | rfl | rfl <;> rfl
/-- a row of one's own of entries is read -/
theorem rowO_C {w : World} {base n : Nat} {v : Value} {l : List En} (h : RowO w base 36 5 v n (ens l)) (hn : l.length = n) : ∃ A c, v = .slice A n c ∧ n ≤ c ∧ Kd.C k36 w A n l := by
  have hle := h.slice
  rcases h.2 with ⟨rfl, rfl⟩ | ⟨g, o, cap, cur, rfl, hb, hh, hnc, hcm, hs, hx⟩
  · refine ⟨none, 0, rfl, Nat.le_refl _, hn, by omega, fun hp => absurd hp (by omega)⟩
  · refine ⟨_, cap, rfl, hnc, hn, by unfold maxLen at hcm; omega, fun hp => ⟨_, rfl, fun j p hj => ⟨enc5 p, rfl, ?_, fun i u hu => ?_⟩⟩⟩
    · exact k36_mk w p
    · have hi : i < 5 := (List.getElem?_eq_some_iff.1 hu).1
      have hjl := (List.getElem?_eq_some_iff.1 hj).1
      obtain ⟨g', o', cap', hv, _, _, _, hcell, _⟩ := h.at_ hp
      injection hv with hv1 hv2 hv3
      injection hv1 with hv1
      injection hv1 with hv1 hv4
      subst hv1 hv4
      have := hcell (j * 5 + i) (by omega)
      rw [ens_at l j p hj i hi, hu] at this
      rw [← this]
      show w.cell? (Addr.add ⟨g, o, none⟩ (j * 5 + i)) = _
      congr 1
      simp [Addr.add]
theorem own_ens_C {w : World} {base n : Nat} {v : Value} {l : List En} (h : w.ownsRow base 36 5 v n (ens l)) (hn : l.length = n) : ∃ A c, v = .slice A n c ∧ n ≤ c ∧ Kd.C k36 w A n l := rowO_C (rowO_of_own h) hn
theorem C_ens {w : World} {A : Option Addr} {n : Nat} {l : List En} (h : Kd.C k36 w A n l) (hp : 0 < n) : ∃ ad, A = some ad ∧ ∀ j u, (ens l)[j]? = some u → w.cell? (ad.add j) = some u := by
  obtain ⟨hl, hm, hc⟩ := h
  obtain ⟨ad, hA, hcell⟩ := hc hp
  refine ⟨ad, hA, fun j u hu => ?_⟩
  have hj : j < l.length * 5 := by rw [← ens_len]; exact (List.getElem?_eq_some_iff.1 hu).1
  have hjl : j / 5 < l.length := by omega
  obtain ⟨c, hcs, hR, hcc⟩ := hcell (j / 5) _ (List.getElem?_eq_getElem hjl)
  obtain rfl := k36_open hR
  have h1 := ens_at l (j / 5) _ (List.getElem?_eq_getElem hjl) (j % 5) (Nat.mod_lt _ (by omega))
  rw [show j / 5 * 5 + j % 5 = j from by omega, hu] at h1
  have := hcc (j % 5) u h1.symm
  rw [show k36.sz = 5 from rfl] at this
  rw [show j / 5 * 5 + j % 5 = j from by omega] at this
  exact this
theorem infoEn : (Try.prog.info? 36).map (fun i => (i.zero, i.size, i.bytes)) = some (some (.agg #[.int .i64 0, .int .i64 0, .int .i64 0, .string ⟨#[]⟩, .int .i64 0]), 5, 48) := by kernel_rfl
theorem C_takeE {w : World} {A : Option Addr} {n m : Nat} {l : List En} (h : Kd.C k36 w A n l) (hm : m ≤ n) : Kd.C k36 w A m (l.take m) := by
  obtain ⟨hl, hx, hc⟩ := h
  refine ⟨by rw [List.length_take, hl]; omega, by omega, fun hp => ?_⟩
  obtain ⟨ad, hA, hcell⟩ := hc (by omega)
  refine ⟨ad, hA, fun j p hj => hcell j p ?_⟩
  rw [List.getElem?_take] at hj
  split at hj
  · exact hj
  · cases hj
/-- the entry as it is numbered, and the audit behind it -/
def nextE (last : Int) (e : En) : En := ⟨last + 1, e.f1, e.f2, e.f3, e.f4⟩
def addP (a : ByteArray) (last : Int) (l : List En) (e : En) : Option (ByteArray × List En) :=
  if mayP a last l && goodP (nextE last e) then some (if l.length = 8 then (strOfNums (sealL (bytesOf a) (bytesE (l.getD 0 z36))), l.drop 1 ++ [nextE last e]) else (a, l ++ [nextE last e])) else none
def zA : List Value := [.string ⟨#[]⟩, .int .i64 0, .slice none 0 0]
def AddV (base : Nat) (last : Int) : Option (ByteArray × List En) → World → Value → Prop
  | none => fun _ v => v = .tuple #[.agg #[.string ⟨#[]⟩, .int .i64 0, .slice none 0 0], .int .i64 1]
  | some r => fun w v => ∃ v0, v = .tuple #[.agg #[.string r.1, .int .i64 (last + 1), v0], .int .i64 0] ∧ RowO w base 36 5 v0 r.2.length (ens r.2)
/-- the row behind an append -/
def AppO (base : Nat) (e : TypeId) (size : Nat) (cs : List Value) (n : Nat) (vb : Value) (N : Nat) : World → Value → Prop := fun w v => RowO w base e size v n cs ∧ (v.ownBlock = vb.ownBlock ∨ ∃ k, v.ownBlock = some k ∧ N ≤ k)
theorem emptyE (w : World) (base : Nat) (hb : base ≤ w.heap.size) : (w.alloc (.cells #[] 36)).ownsRow base 36 5 (.slice (some ⟨w.heap.size, 0, none⟩) 0 0) 0 [] :=
  ⟨rfl, .inr ⟨w.heap.size, 0, #[], rfl, hb, Blk.new w 36 [], Nat.le_refl _, by unfold maxLen; omega, rfl, rfl⟩⟩
theorem zA_one (s : ByteArray) (i : Int) (A : Option Addr) (n c : Nat) : [Value.string s, .int .i64 i, .slice A n c].toArray.all (·.oneCell') = true := by simp [Value.oneCell']
end Go.Proofs.Ytmifoihfpjomaaa.F

-- AudG
namespace Go.Proofs.Ytmifoihfpjomaaa.F
open Go Go.RowKit Go.Proofs.YtmifoihfpjomaaaW.PrintWords Go.Proofs.YtmifoihfpjomaaaW.PrintLast Go.Proofs.YtmifoihfpjomaaaW.PrintMore Go.Proofs.YtmifoihfpjomaaaM Go.Proofs.YtmifoihfpjomaaaR
attribute [local go_sem] max2_int min2_int max_two min_two
set_option linter.unusedSimpArgs false
set_option linter.unusedVariables false
set_option maxRecDepth 100000
set_option maxHeartbeats 8000000 in
theorem add_c (a : ByteArray) (last : Int) (A : Option Addr) (c : Nat) (l : List En) (s t k : Int) (p : ByteArray) (x : Int) (w : World) (hr : Kd.C k36 w A l.length l) (hc : l.length ≤ c) :
    Calls Try.prog 18 #[.agg #[.string a, .int .i64 last, .slice A l.length c], .agg #[.int .i64 s, .int .i64 t, .int .i64 k, .string p, .int .i64 x]] w (Tells w (AddV w.heap.size last (addP a last l ⟨s, t, k, p, x⟩))) := by
  have HM := Lib.hid (fun w' (h : Grew w w') => may_c a last A c l w' (Kd.C_below hr h) hc)
  obtain ⟨W0, hW0⟩ : ∃ W0, W0 = ((w.alloc (.cells #[.string a, .int .i64 last, .slice A l.length c] 27)).alloc (.cells #[.int .i64 s, .int .i64 t, .int .i64 k, .string p, .int .i64 x] 36)).alloc (.cells #[.string ⟨#[]⟩, .int .i64 0, .slice none 0 0] 27) := ⟨_, rfl⟩
  obtain ⟨H, hH⟩ : ∃ H, H = w.heap.size := ⟨_, rfl⟩
  have hb2 : Blk W0 H 27 [.string a, .int .i64 last, .slice A l.length c] := by rw [hW0, hH]; exact ((Blk.new w _ _).grew (Grew.alloc _ _)).grew (Grew.alloc _ _)
  have hb3 : Blk W0 (H + 1) 36 [.int .i64 s, .int .i64 t, .int .i64 k, .string p, .int .i64 x] := by
    rw [hW0, hH]
    have := (Blk.new (w.alloc (.cells #[.string a, .int .i64 last, .slice A l.length c] 27)) 36 [.int .i64 s, .int .i64 t, .int .i64 k, .string p, .int .i64 x]).grew (Grew.alloc _ (.cells #[.string ⟨#[]⟩, .int .i64 0, .slice none 0 0] 27))
    simpa using this
  have hb4 : Blk W0 (H + 1 + 1) 27 zA := by
    rw [hW0, hH]
    have := Blk.new ((w.alloc (.cells #[.string a, .int .i64 last, .slice A l.length c] 27)).alloc (.cells #[.int .i64 s, .int .i64 t, .int .i64 k, .string p, .int .i64 x] 36)) 27 zA
    simpa [zA] using this
  have hgw : Grew w W0 := by rw [hW0]; exact ((Grew.alloc _ _).trans (Grew.alloc _ _)).trans (Grew.alloc _ _)
  have hWs : W0.heap.size = H + 1 + 1 + 1 := by rw [hW0, hH]; simp
  have HWE := Lib.hid hW0
  have HHE := Lib.hid hH
  have HB2 := Lib.hid (fun wx (h : Grew W0 wx) => hb2.grew h)
  have HB3 := Lib.hid (fun wx (h : Grew W0 wx) => hb3.grew h)
  have HB4 := Lib.hid (fun wx (h : Grew W0 wx) => hb4.grew h)
  have HGW := Lib.hid hgw
  have HWS := Lib.hid hWs
  have HRR := Lib.hid (fun w' (h : Grew w w') => Kd.C_below hr h)
  obtain ⟨n, hn⟩ : ∃ n, n = l.length := ⟨_, rfl⟩
  have HN := Lib.hid hn
  rw [← hn] at HM HB2 HRR hc ⊢
  rw [← hn] at HWE
  obtain ⟨b, hb⟩ : ∃ b, mayP a last l = b := ⟨_, rfl⟩
  rw [hb] at HM
  have HBb := Lib.hid hb
  obtain ⟨R, hR⟩ : ∃ R, R = addP a last l ⟨s, t, k, p, x⟩ := ⟨_, rfl⟩
  rw [← hR]
  have HRe := Lib.hid hR
  clear hW0 hH hb2 hb3 hb4 hgw hWs hr hn hb hR
  cases b with
  | false =>
    have hres : R = none := by rw [HRe.out]; unfold addP; rw [HBb.out]; rfl
    subst hres
    go_enter Try.func18, Try.ntmps18
    go_wp2_with fail
    rw [← HWE.out]
    rw [← HHE.out]
    refine (HM.out _ HGW.out).mono ?_
    rintro e w2 ⟨_, rfl, rfl, hg2⟩
    have hb4 := HB4.out w2 hg2
    go_wp2_with (first | refine wpList_store_blk (c := zA) hb4 (by rfl) 27 (.tmp 4) (.tmp 10) (by rfl) (by rfl) (by rfl) (by kernel_rfl) rfl (by kernel_rfl) ?_)
    exact bodyPost_ret (results_ct rfl _ _ (H + 1 + 1) 27 zA.toArray (0, 0) _ rfl (hb4.setRow zA) Try.underlying27 (by rfl) (by rfl)) rfl ⟨_, rfl, by rfl, Grew.setRow (Grew.trans HGW.out hg2) (by have := HHE.out; omega) _⟩
  | true =>
    have hmr := mayR HBb.out
    have hl0 := hmr.l0
    have hl1 := hmr.l1
    have hlen := hmr.len
    rw [← HN.out] at hlen
    have HMR := Lib.hid hmr
    clear hmr
    have hn8 : n ≤ 8 := by omega
    obtain ⟨q, hq⟩ : ∃ q : Int, q = last + 1 := ⟨_, rfl⟩
    have HQ := Lib.hid hq
    obtain ⟨b2, hb2⟩ : ∃ b2, goodP ⟨q, t, k, p, x⟩ = b2 := ⟨_, rfl⟩
    have HGD := Lib.hid (fun w => good_c q t k p x w)
    rw [hb2] at HGD
    have HB22 := Lib.hid hb2
    have hw1 : last + 1 = q := hq.symm
    clear hb2 hq hlen
    go_enter Try.func18, Try.ntmps18
    go_wp2_with fail
    rw [← HWE.out]
    rw [← HHE.out]
    refine (HM.out _ HGW.out).mono ?_
    rintro e w2 ⟨_, rfl, rfl, hg2⟩
    have b2 := HB2.out w2 hg2
    have b3 := HB3.out w2 hg2
    have k1 := b2.at_ 1
    have j0 := b3.at_ 0
    have j1 := b3.at_ 1
    have j2 := b3.at_ 2
    have j3 := b3.at_ 3
    have j4 := b3.at_ 4
    have f0 := b3.fz 0
    simp only [List.getElem?_cons_zero, List.getElem?_cons_succ] at k1 j0 j1 j2 j3 j4
    have hb3' := b3.set 0 (.int .i64 q)
    obtain ⟨W3, hW3⟩ : ∃ W3, W3 = w2.setCell ⟨H + 1, 0, none⟩ (.int .i64 q) := ⟨_, rfl⟩
    rw [← hW3] at hb3'
    have hb3' : Blk W3 (H + 1) 36 [.int .i64 q, .int .i64 t, .int .i64 k, .string p, .int .i64 x] := hb3'
    have hu3 : Upd (fun j => j = H + 1) w2 W3 := by rw [hW3]; exact Upd.set (S := fun j => j = H + 1) (p := ⟨H + 1, 0, none⟩) (Upd.refl _ _) (.inl rfl) _
    have hgw3 : Grew w W3 := ((Upd.of_grew (S := fun j => j = H + 1) (Grew.trans HGW.out hg2)).trans hu3).grew (fun i hi e => by have := HHE.out; omega)
    have hb23 := b2.upd hu3 (by omega)
    have hb43 := (HB4.out w2 hg2).upd hu3 (by omega)
    have hs3 : H + 1 + 1 + 1 ≤ W3.heap.size := by have h1 := HWS.out; have h2 := hg2.size; have h3 := hu3.size; omega
    have C2 := Lib.hid (fun wx (h : Grew W3 wx) => hb23.grew h)
    have C3 := Lib.hid (fun wx (h : Grew W3 wx) => hb3'.grew h)
    have C4 := Lib.hid (fun wx (h : Grew W3 wx) => hb43.grew h)
    have HW3 := Lib.hid hW3
    have HG3 := Lib.hid hgw3
    have HS3 := Lib.hid hs3
    clear hb3' hW3 hu3 hgw3 hb23 hb43 b2 b3 hg2 hs3
    go_wp2_with fail
    rw [← HW3.out]
    clear k1 j0 j1 j2 j3 j4 f0
    refine (HGD.out _).mono ?_
    rintro e w4 ⟨_, rfl, rfl, hg4⟩
    cases b2 with
    | false =>
      have hres : R = none := by rw [HRe.out]; unfold addP; rw [HBb.out, show nextE last ⟨s, t, k, p, x⟩ = ⟨q, t, k, p, x⟩ from by unfold nextE; rw [HQ.out], HB22.out]; rfl
      subst hres
      have hb4 := C4.out w4 hg4
      go_wp2_with (first | refine wpList_store_blk (c := zA) hb4 (by rfl) 27 (.tmp 4) (.tmp 18) (by rfl) (by rfl) (by rfl) (by kernel_rfl) rfl (by kernel_rfl) ?_)
      exact bodyPost_ret (results_ct rfl _ _ (H + 1 + 1) 27 zA.toArray (0, 0) _ rfl (hb4.setRow zA) Try.underlying27 (by rfl) (by rfl)) rfl ⟨_, rfl, by rfl, Grew.setRow (Grew.trans HG3.out hg4) (by have := HHE.out; omega) _⟩
    | true =>
      have hres : R = some (if l.length = 8 then (strOfNums (sealL (bytesOf a) (bytesE (l.getD 0 z36))), l.drop 1 ++ [⟨q, t, k, p, x⟩]) else (a, l ++ [⟨q, t, k, p, x⟩])) := by
        have hne : nextE last ⟨s, t, k, p, x⟩ = ⟨q, t, k, p, x⟩ := by unfold nextE; rw [HQ.out]
        rw [HRe.out]; unfold addP; rw [HBb.out, hne, HB22.out]; rfl
      have HR2 := Lib.hid hres
      clear hres
      -- the copy of the entries
      have hgw4 := Grew.trans HG3.out hg4
      have hE := emptyE w4 w4.heap.size (Nat.le_refl _)
      have hgE : Grew w4 (w4.alloc (.cells #[] 36)) := Grew.alloc _ _
      have hs4 : H + 1 + 1 + 1 ≤ w4.heap.size := Nat.le_trans HS3.out hg4.size
      obtain ⟨v6, w6, hrun6, hown6, hgr6, -⟩ := app_many (P := Try.prog) (w4.alloc (.cells #[] 36)) w4.heap.size 22 36 22 (.agg #[.int .i64 0, .int .i64 0, .int .i64 0, .string ⟨#[]⟩, .int .i64 0]) 5 48 Try.underlying22 infoEn rfl (by decide) (by decide) (.slice (some ⟨w4.heap.size, 0, none⟩) 0 0) 0 [] A n c (ens l) (by rw [ens_len, HN.out]) (ens_one l) (fun hp => C_ens (HRR.out _ (Grew.trans hgw4 hgE)) hp) hE hgE.size (by omega)
      rw [Nat.zero_add, List.nil_append] at hown6
      have hgr6' : Grew w4 w6 := ((Upd.of_grew (S := fun j => j = w4.heap.size) hgE).trans ((Upd.of_grown hgr6).mono (fun j _ h => by simpa [Value.ownBlock] using h.symm))).grew (fun i hi e => by omega)
      have hg46 := Grew.trans hg4 hgr6'
      have hgw6 := Grew.trans HG3.out hg46
      have k2' := (C2.out _ (Grew.trans hg4 hgE)).at_ 2
      simp only [List.getElem?_cons_zero, List.getElem?_cons_succ] at k2'
      have HRUN := Lib.hid hrun6
      have hown6 := own_less hown6 hs4
      have HO6 := Lib.hid hown6
      have HG46 := Lib.hid hg46
      have HGW6 := Lib.hid hgw6
      have HS6 := Lib.hid (show H + 1 + 1 + 1 ≤ w6.heap.size from Nat.le_trans hs4 hgr6'.size)
      obtain ⟨A6, c6, rfl⟩ := own_slice hown6
      have hc6 := own_le hown6
      clear hrun6 hown6 hgr6 hgr6' hg46 hE hgE hgw4 hg4 hs4 hgw6
      by_cases h8 : n = 8
      · have e8 : ((n : Int) == 8) = true := by simp; omega
        subst h8
        have hl8 : l.length = 8 := HN.out.symm
        have HLV := Lib.hid (show R = some (strOfNums (sealL (bytesOf a) (bytesE (l.getD 0 z36))), l.drop 1 ++ [⟨q, t, k, p, x⟩]) from by rw [HR2.out, if_pos hl8])
        obtain ⟨S, hS⟩ : ∃ S, S = strOfNums (sealL (bytesOf a) (bytesE (l.getD 0 z36))) := ⟨_, rfl⟩
        rw [← hS] at HLV
        obtain ⟨⟨y0, y1, y2, y3, y4⟩, hy⟩ : ∃ y : En, y = l.getD 0 z36 := ⟨_, rfl⟩
        have hly : l[0]? = some ⟨y0, y1, y2, y3, y4⟩ := by rw [hy]; simp [List.getD, List.getElem?_eq_getElem (show 0 < l.length by omega)]
        have hgy : goodP ⟨y0, y1, y2, y3, y4⟩ = true := HMR.out.good _ (List.mem_of_getElem? hly)
        rw [← hy] at hS
        have HBY := Lib.hid (fun w => bytes_c y0 y1 y2 y3 y4 hgy w)
        obtain ⟨BY, hBY⟩ : ∃ BY, BY = strOfNums (bytesE ⟨y0, y1, y2, y3, y4⟩) := ⟨_, rfl⟩
        have HSE := Lib.hid (fun w => seal_c w (bytesOf a) (bytesE ⟨y0, y1, y2, y3, y4⟩) (bytesOf_bytes a) (bytesE_bytes _) (by rw [bytesOf_length]; have := HMR.out.sz; omega) (by have := bytesE_len hgy; omega))
        rw [str_bytes, ← hBY, ← hS] at HSE
        rw [← hBY] at HBY
        obtain ⟨g6, o6, cap6, hv6, -, -, hg6, hcell6, -⟩ := (rowO_of_own HO6.out).at_ (by omega)
        injection hv6 with hv61 hv62 hv63
        subst hv61 hv63
        have hrow6 := rowO_of_own HO6.out
        have hcl0 := hcell6 0 (by omega)
        have hcl1 := hcell6 1 (by omega)
        have hcl2 := hcell6 2 (by omega)
        have hcl3 := hcell6 3 (by omega)
        have hcl4 := hcell6 4 (by omega)
        have hea := ens_at l 0 _ hly
        have hea0 := hea 0 (by omega)
        have hea1 := hea 1 (by omega)
        have hea2 := hea 2 (by omega)
        have hea3 := hea 3 (by omega)
        have hea4 := hea 4 (by omega)
        simp only [Nat.zero_mul, Nat.zero_add] at hea0 hea1 hea2 hea3 hea4
        rw [hea0] at hcl0
        rw [hea1] at hcl1
        rw [hea2] at hcl2
        rw [hea3] at hcl3
        rw [hea4] at hcl4
        simp only [enc5, List.getElem?_cons_zero, List.getElem?_cons_succ, Nat.add_zero] at hcl0 hcl1 hcl2 hcl3 hcl4
        have CL := Lib.hid (fun wx (h : Grew w6 wx) => And.intro (pw_cell_below h hcl0) (And.intro (pw_cell_below h hcl1) (And.intro (pw_cell_below h hcl2) (And.intro (pw_cell_below h hcl3) (pw_cell_below h hcl4)))))
        have hb6 := hrow6.base_ g6 rfl
        have HROW6 := Lib.hid hrow6
        clear hcl0 hcl1 hcl2 hcl3 hcl4 hea hea0 hea1 hea2 hea3 hea4 hcell6 hly hgy hy hS hBY hv62 hrow6 hl8
        go_wp2_with (at_builtin; refine wpList_app (by rfl) (.tmp 19) (.tmp 21) 22 (by rfl) (by rfl) (by rfl) HRUN.out ?_)
        apply region_grew [Is _, Is _, Is _, Is _, Is _, Is _] [([(2, none)], none), ([(26, some 0)], none), ([(6, none)], none), ([(28, some 2)], none), ([(29, some 3)], none), ([(30, some 4)], none)] [(26, 0), (27, 1), (28, 2), (29, 3), (30, 4), (31, 5)] rfl (by kernel_rfl) (by kernel_rfl) (show Stable Grew _ from ⟨Is.stable _, Is.stable _, Is.stable _, Is.stable _, Is.stable _, Is.stable _, trivial⟩)
        · show OpsHold _ _ _ _ _ _ _ _ _
          refine ⟨fun a_ wx hR hD K hK => ?_, ?_⟩
          · have hG : Grew w6 wx := (Grew.drew _).trans hR
            simp [Deps, Dep, at_, Is] at hD
            go_simp
            exact hK _ _ (Grew.refl _) rfl
          refine ⟨fun a_ wx hR hD K hK => ?_, ?_⟩
          · have hG : Grew w6 wx := (Grew.drew _).trans hR
            simp [Deps, Dep, at_, Is] at hD
            have e_ := (C2.out wx (Grew.trans HG46.out hG)).at_ 0
            simp only [List.getElem?_cons_zero] at e_
            go_simp
            exact hK _ _ (Grew.refl _) rfl
          refine ⟨fun a_ wx hR hD K hK => ?_, ?_⟩
          · have hG : Grew w6 wx := (Grew.drew _).trans hR
            simp [Deps, Dep, at_, Is] at hD
            go_simp
            exact hK _ _ (Grew.refl _) rfl
          refine ⟨fun a_ wx hR hD K hK => ?_, ?_⟩
          · have hG : Grew w6 wx := (Grew.drew _).trans hR
            simp [Deps, Dep, at_, Is] at hD
            go_simp
            exact hK _ _ (Grew.refl _) rfl
          refine ⟨fun a_ wx hR hD K hK => ?_, ?_⟩
          · have hG : Grew w6 wx := (Grew.drew _).trans hR
            simp [Deps, Dep, at_, Is] at hD
            obtain ⟨e0, e1, e2, e3, e4⟩ := CL.out wx hG
            go_simp
            exact hK _ _ (Grew.refl _) rfl
          refine ⟨fun a_ wx hR hD K hK => ?_, ?_⟩
          · have hG : Grew w6 wx := (Grew.drew _).trans hR
            simp [Deps, Dep, at_, Is] at hD
            go_simp
            have hcn := HBY.out wx
            with_reducible refine hcn.mono ?_
            clear hcn
            rintro e wy ⟨v, rfl, hv, hg⟩
            exact hK _ _ hg hv
          trivial
        · show EndHold _ _ _ _ _ _ _
          refine end_all (xs := [_, _, _, _, _, _]) ⟨rfl, rfl, rfl, rfl, rfl, rfl, trivial⟩ ?_
          rintro wb hR1 -
          refine ⟨?_⟩
          have hG_wb : Grew w6 wb := (Grew.drew _).trans hR1
          clear hR1
          simp only [Act.put, List.setIfInBounds_toArray, List.set_cons_succ, List.set_cons_zero, dropN, putEach]
          go_wp2_with fail
          refine (HSE.out wb).mono ?_
          rintro e w7 ⟨_, rfl, rfl, hgb7⟩
          have hG_w7 : Grew w6 w7 := Grew.trans hG_wb hgb7
          clear hG_wb hgb7
          have hb27 := C2.out w7 (Grew.trans HG46.out hG_w7)
          have k0 := hb27.at_ 0
          have f0 := hb27.fz 0
          simp only [List.getElem?_cons_zero] at k0
          have hb28 := hb27.set 0 (.string S)
          obtain ⟨Wc, hWc⟩ : ∃ Wc, Wc = w7.setCell ⟨H, 0, none⟩ (.string S) := ⟨_, rfl⟩
          rw [← hWc] at hb28
          have hb28 : Blk Wc H 27 [.string S, .int .i64 last, .slice A 8 c] := hb28
          have hu8 : Upd (fun j => j = H) w7 Wc := by rw [hWc]; exact Upd.set (S := fun j => j = H) (p := ⟨H, 0, none⟩) (Upd.refl _ _) (.inl rfl) _
          have D2 := Lib.hid (fun wx (h : Upd (fun j => H + 1 + 1 + 1 ≤ j) Wc wx) => hb28.upd h (by omega))
          have hb38 := (C3.out w7 (Grew.trans HG46.out hG_w7)).upd hu8 (by omega)
          have D3 := Lib.hid (fun wx (h : Upd (fun j => H + 1 + 1 + 1 ≤ j) Wc wx) => hb38.upd h (by omega))
          have hb48 := (C4.out w7 (Grew.trans HG46.out hG_w7)).upd hu8 (by omega)
          have D4 := Lib.hid (fun wx (h : Upd (fun j => H + 1 + 1 + 1 ≤ j) Wc wx) => hb48.upd h (by omega))
          have HGc := Lib.hid (show Grew w Wc from ((Upd.of_grew (S := fun j => j = H) (Grew.trans HGW6.out hG_w7)).trans hu8).grew (fun i hi e => by have := HHE.out; omega))
          have HSc := Lib.hid (show H + 1 + 1 + 1 ≤ Wc.heap.size from Nat.le_trans HS6.out (Nat.le_trans hG_w7.size hu8.size))
          have hr8 := (HROW6.out.grew hG_w7).upd hu8 (fun j hj e => by have := HROW6.out.base_ j hj; omega)
          have HRO := Lib.hid (show RowO Wc (H + 1 + 1 + 1) 36 5 (.slice (some ⟨g6, o6 + 5, none⟩) 7 7) 7 (ens (l.drop 1)) from by
            obtain ⟨hx1, hx2 | ⟨g', o', cap', cur, hx3, hx4, hx5, hx6, hx7, hx8, hx9⟩⟩ := hr8
            · exact absurd hx2.2 (by omega)
            · injection hx3 with hx31 hx32 hx33
              injection hx31 with hx31
              injection hx31 with hx31 hx34
              subst hx31 hx33 hx34
              refine ⟨by rw [ens_len, List.length_drop, ← HN.out], .inr ⟨g6, o6 + 5, 7, cur, rfl, hx4, hx5, Nat.le_refl _, by unfold maxLen; omega, by omega, ?_⟩⟩
              rw [← ens_drop l 1, ← hx9, List.drop_take, List.drop_drop])
          have HWc := Lib.hid hWc
          have c8 : (8 : Int) ≤ (c6 : Int) := by omega
          have c8' : 8 ≤ c6 := hc6
          clear hb27 hb28 hb38 hb48 hu8 hr8 hWc hb6 hg6 hG_w7
          go_wp2_with fail
          rw [← HWc.out]
          clear k0 f0
          have hatV := HRO.out.base_
          have L2 := Lib.hid (fun wx (h : Grew Wc wx ∨ ∃ w1, Grew Wc w1 ∧ w1.grownBy wx (Value.slice (some ⟨g6, o6 + 5, none⟩) 7 7).ownBlock) => D2.out wx ((late_upd h).mono (fun j _ hj => hatV j hj)))
          have L3 := Lib.hid (fun wx (h : Grew Wc wx ∨ ∃ w1, Grew Wc w1 ∧ w1.grownBy wx (Value.slice (some ⟨g6, o6 + 5, none⟩) 7 7).ownBlock) => D3.out wx ((late_upd h).mono (fun j _ hj => hatV j hj)))
          have hlrV := HRO.out.lt
          clear hatV
          apply region_bigF (fun w w' => w.grownBy w' (Value.slice (some ⟨g6, o6 + 5, none⟩) 7 7).ownBlock) [.float, .float, .float, .float, .plain, .plain, .plain, .big] [Is _, Is _, Is _, Is _, Is _, Is _, OneC 36 [.int .i64 q, .int .i64 t, .int .i64 k, .string p, .int .i64 x] (.slice (some ⟨g6, o6 + 5, none⟩) 7 7), AppO (H + 1 + 1 + 1) 36 5 (ens (l.drop 1) ++ enc5 ⟨q, t, k, p, x⟩) (7 + 1) (.slice (some ⟨g6, o6 + 5, none⟩) 7 7) Wc.heap.size] [([(2, none)], none), ([(40, some 0)], none), ([(3, none)], none), ([(42, some 2)], none), ([(6, none)], none), ([(3, none)], none), ([(45, some 5)], none), ([(44, some 4), (46, some 6)], none)] [(46, 6), (47, 7), (40, 0), (41, 1), (42, 2), (43, 3), (44, 4), (45, 5)] rfl (by kernel_rfl) (by kernel_rfl) (by kernel_rfl) (by kernel_rfl) rfl (show StableB Grew _ _ _ from ⟨(fun _ => Is.stableB _), (fun _ => Is.stableB _), (fun _ => Is.stableB _), (fun _ => Is.stableB _), (fun _ => Is.stableB _), (fun _ => Is.stableB _), (fun _ => OneC.stableB _ _ _), (fun h_ => absurd rfl h_), trivial⟩)
          · show PhHoldF _ _ _ _ _ _ _ _ _ _ _
            refine ⟨fun a_ wx hRL hD K hK => ?_, ?_⟩
            · have hF_ := True.intro
              have hRL : Grew Wc wx ∨ ∃ w1_, Grew Wc w1_ ∧ (fun w w' => w.grownBy w' (Value.slice (some ⟨g6, o6 + 5, none⟩) 7 7).ownBlock) w1_ wx := hRL.elim (fun h_ => .inl ((Grew.drew _).trans h_)) (fun h_ => .inr ⟨h_.choose, (Grew.drew _).trans h_.choose_spec.1, h_.choose_spec.2⟩)
              simp [Deps, Dep, at_, Is] at hD
              go_simp
              exact hK _ _ rfl rfl
            refine ⟨fun a_ wx hRL hD K hK => ?_, ?_⟩
            · have hF_ := True.intro
              have hRL : Grew Wc wx ∨ ∃ w1_, Grew Wc w1_ ∧ (fun w w' => w.grownBy w' (Value.slice (some ⟨g6, o6 + 5, none⟩) 7 7).ownBlock) w1_ wx := hRL.elim (fun h_ => .inl ((Grew.drew _).trans h_)) (fun h_ => .inr ⟨h_.choose, (Grew.drew _).trans h_.choose_spec.1, h_.choose_spec.2⟩)
              simp [Deps, Dep, at_, Is] at hD
              have e_ := (L2.out wx hRL).at_ 0
              simp only [List.getElem?_cons_zero] at e_
              go_simp
              exact hK _ _ rfl rfl
            refine ⟨fun a_ wx hRL hD K hK => ?_, ?_⟩
            · have hF_ := True.intro
              have hRL : Grew Wc wx ∨ ∃ w1_, Grew Wc w1_ ∧ (fun w w' => w.grownBy w' (Value.slice (some ⟨g6, o6 + 5, none⟩) 7 7).ownBlock) w1_ wx := hRL.elim (fun h_ => .inl ((Grew.drew _).trans h_)) (fun h_ => .inr ⟨h_.choose, (Grew.drew _).trans h_.choose_spec.1, h_.choose_spec.2⟩)
              simp [Deps, Dep, at_, Is] at hD
              go_simp
              exact hK _ _ rfl rfl
            refine ⟨fun a_ wx hRL hD K hK => ?_, ?_⟩
            · have hF_ := True.intro
              have hRL : Grew Wc wx ∨ ∃ w1_, Grew Wc w1_ ∧ (fun w w' => w.grownBy w' (Value.slice (some ⟨g6, o6 + 5, none⟩) 7 7).ownBlock) w1_ wx := hRL.elim (fun h_ => .inl ((Grew.drew _).trans h_)) (fun h_ => .inr ⟨h_.choose, (Grew.drew _).trans h_.choose_spec.1, h_.choose_spec.2⟩)
              simp [Deps, Dep, at_, Is] at hD
              have e_ := (L3.out wx hRL).at_ 0
              simp only [List.getElem?_cons_zero] at e_
              go_simp
              exact hK _ _ rfl rfl
            refine ⟨fun a_ wx hR hD K hK => ?_, ?_⟩
            · have hG : Grew Wc wx := (Grew.drew _).trans hR
              simp [Deps, Dep, at_, Is] at hD
              go_simp
              exact hK _ _ (Grew.refl _) rfl
            refine ⟨fun a_ wx hR hD K hK => ?_, ?_⟩
            · have hG : Grew Wc wx := (Grew.drew _).trans hR
              simp [Deps, Dep, at_, Is] at hD
              have e0 := (L3.out wx (.inl hG)).at_ 0
              have e1 := (L3.out wx (.inl hG)).at_ 1
              have e2 := (L3.out wx (.inl hG)).at_ 2
              have e3 := (L3.out wx (.inl hG)).at_ 3
              have e4 := (L3.out wx (.inl hG)).at_ 4
              simp only [List.getElem?_cons_zero, List.getElem?_cons_succ] at e0 e1 e2 e3 e4
              go_simp
              exact hK _ _ (Grew.refl _) rfl
            refine ⟨fun a_ wx hR hD K hK => ?_, ?_⟩
            · have hG : Grew Wc wx := (Grew.drew _).trans hR
              simp [Deps, Dep, at_, Is] at hD
              go_simp
              exact hK _ _ (Grew.alloc _ _) (OneC.new (fun k hk => Nat.lt_of_lt_of_le (hlrV k hk) hG.size))
            refine ⟨⟨rfl, fun a_ wx hR hD K hK => ?_⟩, ?_⟩
            · have hG : Grew Wc wx := (Grew.drew _).trans hR
              simp [Deps, Dep, at_, Is] at hD
              obtain ⟨hd0, hd1⟩ := hD
              obtain ⟨g1, h1, h2, h3⟩ := hd1
              obtain ⟨v1, wy, hrun, hown1, hgr1, hat1⟩ := app_rowO (P := Try.prog) wx (H + 1 + 1 + 1) 22 36 22 (.agg #[.int .i64 0, .int .i64 0, .int .i64 0, .string ⟨#[]⟩, .int .i64 0]) 5 48 Try.underlying22 infoEn rfl (by decide) (by decide) (.slice (some ⟨g6, o6 + 5, none⟩) 7 7) 7 _ g1 _ rfl (enc5_one ⟨q, t, k, p, x⟩) (HRO.out.grew hG) h2 (Nat.le_trans HSc.out hG.size) (by omega)
              exact wp_app (.tmp 44) (.tmp 46) 22 (by rfl) (eval_tmp hd0) (eval_tmp h1) hrun (hK _ _ hgr1 ⟨hown1, hat1.imp id (fun ⟨k, h, h'⟩ => ⟨k, h, Nat.le_trans hG.size h'⟩)⟩)
            trivial
          · show EndHold _ _ _ _ _ _ _
            intro v46
            intro v47
            refine end_all (xs := [_, _, _, _, _, _]) ⟨rfl, rfl, rfl, rfl, rfl, rfl, trivial⟩ ?_
            rintro w7 hR1 ⟨⟨-, hOne⟩, hApp⟩
            refine ⟨?_⟩
            obtain ⟨wm_w7, hRm, hP_w7⟩ := hR1
            have hG_w7 : Grew Wc wm_w7 := (Grew.drew _).trans hRm
            clear hRm
            simp only [Act.put, List.setIfInBounds_toArray, List.set_cons_succ, List.set_cons_zero, dropN, putEach]
            obtain ⟨hro7, -⟩ := hApp
            obtain ⟨A9, c9, hv9, -⟩ := hro7.slice
            subst hv9
            have hatV := HRO.out.base_
            have hu7 : Upd (fun j => H + 1 + 1 + 1 ≤ j) Wc w7 := ((Upd.of_grew hG_w7).grown hP_w7 fun k hk => .inl hk).mono (fun j _ hj => hatV j hj)
            have hb4 := D4.out w7 hu7
            have hg7 : Grew w w7 := ((Upd.of_grew (S := fun j => H + 1 + 1 + 1 ≤ j) HGc.out).trans hu7).grew (fun i hi e => by have := HHE.out; omega)
            have HR7 := Lib.hid hro7
            clear hatV hu7 hro7 hP_w7 hG_w7 hOne hlrV
            go_wp2_with (first | refine wpList_store_blk (c := [.string S, .int .i64 q, .slice A9 (7 + 1) c9]) hb4 (by rfl) 27 (.tmp 4) (.tmp 48) (by rfl) (by rfl) (by rfl) (by kernel_rfl) rfl (zA_one _ _ _ _ _) ?_)
            exact bodyPost_ret (results_ct rfl _ _ (H + 1 + 1) 27 ([.string S, .int .i64 q, .slice A9 (7 + 1) c9] : List Value).toArray (0, 0) _ rfl (hb4.setRow ([.string S, .int .i64 q, .slice A9 (7 + 1) c9] : List Value)) Try.underlying27 (by rfl) (by rfl)) rfl ⟨_, rfl, by
              rw [HLV.out]
              refine ⟨_, by rw [HQ.out]; rfl, ?_⟩
              have hsr : ∀ cc, Upd (fun j => j = H + 1 + 1) w7 (w7.setRow (H + 1 + 1) cc) := fun cc => Upd.setRow (S := fun j => j = H + 1 + 1) (Upd.refl _ _) (.inl rfl) cc
              have h := HR7.out.less (base := w.heap.size) (by have := HHE.out; omega)
              rw [← ens_snoc] at h
              rw [List.length_append, List.length_singleton]
              rw [List.length_drop, ← HN.out]; exact h.upd (hsr _) (fun j hj e => by have := HR7.out.base_ j hj; omega), Grew.setRow hg7 (by have := HHE.out; omega) _⟩

      · have e8 : ((n : Int) == 8) = false := by simp; omega
        have HLV := Lib.hid (show R = some (a, l ++ [⟨q, t, k, p, x⟩]) from by rw [HR2.out, if_neg (by rw [← HN.out]; exact h8)])
        obtain ⟨Wc, hWc⟩ : ∃ Wc, Wc = w6 := ⟨_, rfl⟩
        subst hWc
        have D2 := Lib.hid (fun wx (h : Upd (fun j => H + 1 + 1 + 1 ≤ j) Wc wx) => (C2.out Wc HG46.out).upd h (by omega))
        have D3 := Lib.hid (fun wx (h : Upd (fun j => H + 1 + 1 + 1 ≤ j) Wc wx) => (C3.out Wc HG46.out).upd h (by omega))
        have D4 := Lib.hid (fun wx (h : Upd (fun j => H + 1 + 1 + 1 ≤ j) Wc wx) => (C4.out Wc HG46.out).upd h (by omega))
        have HGc := Lib.hid HGW6.out
        have HSc := Lib.hid HS6.out
        have HRO := Lib.hid (rowO_of_own HO6.out)
        clear h8
        go_wp2_with (at_builtin; refine wpList_app (by rfl) (.tmp 19) (.tmp 21) 22 (by rfl) (by rfl) (by rfl) HRUN.out ?_)
        have hatV := HRO.out.base_
        have L2 := Lib.hid (fun wx (h : Grew Wc wx ∨ ∃ w1, Grew Wc w1 ∧ w1.grownBy wx (Value.slice A6 n c6).ownBlock) => D2.out wx ((late_upd h).mono (fun j _ hj => hatV j hj)))
        have L3 := Lib.hid (fun wx (h : Grew Wc wx ∨ ∃ w1, Grew Wc w1 ∧ w1.grownBy wx (Value.slice A6 n c6).ownBlock) => D3.out wx ((late_upd h).mono (fun j _ hj => hatV j hj)))
        have hlrV := HRO.out.lt
        clear hatV
        apply region_bigF (fun w w' => w.grownBy w' (Value.slice A6 n c6).ownBlock) [.float, .float, .float, .float, .plain, .plain, .plain, .big] [Is _, Is _, Is _, Is _, Is _, Is _, OneC 36 [.int .i64 q, .int .i64 t, .int .i64 k, .string p, .int .i64 x] (.slice A6 n c6), AppO (H + 1 + 1 + 1) 36 5 (ens l ++ enc5 ⟨q, t, k, p, x⟩) (n + 1) (.slice A6 n c6) Wc.heap.size] [([(2, none)], none), ([(40, some 0)], none), ([(3, none)], none), ([(42, some 2)], none), ([(6, none)], none), ([(3, none)], none), ([(45, some 5)], none), ([(44, some 4), (46, some 6)], none)] [(46, 6), (47, 7), (40, 0), (41, 1), (42, 2), (43, 3), (44, 4), (45, 5)] rfl (by kernel_rfl) (by kernel_rfl) (by kernel_rfl) (by kernel_rfl) rfl (show StableB Grew _ _ _ from ⟨(fun _ => Is.stableB _), (fun _ => Is.stableB _), (fun _ => Is.stableB _), (fun _ => Is.stableB _), (fun _ => Is.stableB _), (fun _ => Is.stableB _), (fun _ => OneC.stableB _ _ _), (fun h_ => absurd rfl h_), trivial⟩)
        · show PhHoldF _ _ _ _ _ _ _ _ _ _ _
          refine ⟨fun a_ wx hRL hD K hK => ?_, ?_⟩
          · have hF_ := True.intro
            have hRL : Grew Wc wx ∨ ∃ w1_, Grew Wc w1_ ∧ (fun w w' => w.grownBy w' (Value.slice A6 n c6).ownBlock) w1_ wx := hRL.elim (fun h_ => .inl ((Grew.drew _).trans h_)) (fun h_ => .inr ⟨h_.choose, (Grew.drew _).trans h_.choose_spec.1, h_.choose_spec.2⟩)
            simp [Deps, Dep, at_, Is] at hD
            go_simp
            exact hK _ _ rfl rfl
          refine ⟨fun a_ wx hRL hD K hK => ?_, ?_⟩
          · have hF_ := True.intro
            have hRL : Grew Wc wx ∨ ∃ w1_, Grew Wc w1_ ∧ (fun w w' => w.grownBy w' (Value.slice A6 n c6).ownBlock) w1_ wx := hRL.elim (fun h_ => .inl ((Grew.drew _).trans h_)) (fun h_ => .inr ⟨h_.choose, (Grew.drew _).trans h_.choose_spec.1, h_.choose_spec.2⟩)
            simp [Deps, Dep, at_, Is] at hD
            have e_ := (L2.out wx hRL).at_ 0
            simp only [List.getElem?_cons_zero] at e_
            go_simp
            exact hK _ _ rfl rfl
          refine ⟨fun a_ wx hRL hD K hK => ?_, ?_⟩
          · have hF_ := True.intro
            have hRL : Grew Wc wx ∨ ∃ w1_, Grew Wc w1_ ∧ (fun w w' => w.grownBy w' (Value.slice A6 n c6).ownBlock) w1_ wx := hRL.elim (fun h_ => .inl ((Grew.drew _).trans h_)) (fun h_ => .inr ⟨h_.choose, (Grew.drew _).trans h_.choose_spec.1, h_.choose_spec.2⟩)
            simp [Deps, Dep, at_, Is] at hD
            go_simp
            exact hK _ _ rfl rfl
          refine ⟨fun a_ wx hRL hD K hK => ?_, ?_⟩
          · have hF_ := True.intro
            have hRL : Grew Wc wx ∨ ∃ w1_, Grew Wc w1_ ∧ (fun w w' => w.grownBy w' (Value.slice A6 n c6).ownBlock) w1_ wx := hRL.elim (fun h_ => .inl ((Grew.drew _).trans h_)) (fun h_ => .inr ⟨h_.choose, (Grew.drew _).trans h_.choose_spec.1, h_.choose_spec.2⟩)
            simp [Deps, Dep, at_, Is] at hD
            have e_ := (L3.out wx hRL).at_ 0
            simp only [List.getElem?_cons_zero] at e_
            go_simp
            exact hK _ _ rfl rfl
          refine ⟨fun a_ wx hR hD K hK => ?_, ?_⟩
          · have hG : Grew Wc wx := (Grew.drew _).trans hR
            simp [Deps, Dep, at_, Is] at hD
            go_simp
            exact hK _ _ (Grew.refl _) rfl
          refine ⟨fun a_ wx hR hD K hK => ?_, ?_⟩
          · have hG : Grew Wc wx := (Grew.drew _).trans hR
            simp [Deps, Dep, at_, Is] at hD
            have e0 := (L3.out wx (.inl hG)).at_ 0
            have e1 := (L3.out wx (.inl hG)).at_ 1
            have e2 := (L3.out wx (.inl hG)).at_ 2
            have e3 := (L3.out wx (.inl hG)).at_ 3
            have e4 := (L3.out wx (.inl hG)).at_ 4
            simp only [List.getElem?_cons_zero, List.getElem?_cons_succ] at e0 e1 e2 e3 e4
            go_simp
            exact hK _ _ (Grew.refl _) rfl
          refine ⟨fun a_ wx hR hD K hK => ?_, ?_⟩
          · have hG : Grew Wc wx := (Grew.drew _).trans hR
            simp [Deps, Dep, at_, Is] at hD
            go_simp
            exact hK _ _ (Grew.alloc _ _) (OneC.new (fun k hk => Nat.lt_of_lt_of_le (hlrV k hk) hG.size))
          refine ⟨⟨rfl, fun a_ wx hR hD K hK => ?_⟩, ?_⟩
          · have hG : Grew Wc wx := (Grew.drew _).trans hR
            simp [Deps, Dep, at_, Is] at hD
            obtain ⟨hd0, hd1⟩ := hD
            obtain ⟨g1, h1, h2, h3⟩ := hd1
            obtain ⟨v1, wy, hrun, hown1, hgr1, hat1⟩ := app_rowO (P := Try.prog) wx (H + 1 + 1 + 1) 22 36 22 (.agg #[.int .i64 0, .int .i64 0, .int .i64 0, .string ⟨#[]⟩, .int .i64 0]) 5 48 Try.underlying22 infoEn rfl (by decide) (by decide) (.slice A6 n c6) n _ g1 _ rfl (enc5_one ⟨q, t, k, p, x⟩) (HRO.out.grew hG) h2 (Nat.le_trans HSc.out hG.size) (by omega)
            exact wp_app (.tmp 44) (.tmp 46) 22 (by rfl) (eval_tmp hd0) (eval_tmp h1) hrun (hK _ _ hgr1 ⟨hown1, hat1.imp id (fun ⟨k, h, h'⟩ => ⟨k, h, Nat.le_trans hG.size h'⟩)⟩)
          trivial
        · show EndHold _ _ _ _ _ _ _
          intro v46
          intro v47
          refine end_all (xs := [_, _, _, _, _, _]) ⟨rfl, rfl, rfl, rfl, rfl, rfl, trivial⟩ ?_
          rintro w7 hR1 ⟨⟨-, hOne⟩, hApp⟩
          refine ⟨?_⟩
          obtain ⟨wm_w7, hRm, hP_w7⟩ := hR1
          have hG_w7 : Grew Wc wm_w7 := (Grew.drew _).trans hRm
          clear hRm
          simp only [Act.put, List.setIfInBounds_toArray, List.set_cons_succ, List.set_cons_zero, dropN, putEach]
          obtain ⟨hro7, -⟩ := hApp
          obtain ⟨A9, c9, hv9, -⟩ := hro7.slice
          subst hv9
          have hatV := HRO.out.base_
          have hu7 : Upd (fun j => H + 1 + 1 + 1 ≤ j) Wc w7 := ((Upd.of_grew hG_w7).grown hP_w7 fun k hk => .inl hk).mono (fun j _ hj => hatV j hj)
          have hb4 := D4.out w7 hu7
          have hg7 : Grew w w7 := ((Upd.of_grew (S := fun j => H + 1 + 1 + 1 ≤ j) HGc.out).trans hu7).grew (fun i hi e => by have := HHE.out; omega)
          have HR7 := Lib.hid hro7
          clear hatV hu7 hro7 hP_w7 hG_w7 hOne hlrV
          go_wp2_with (first | refine wpList_store_blk (c := [.string a, .int .i64 q, .slice A9 (n + 1) c9]) hb4 (by rfl) 27 (.tmp 4) (.tmp 48) (by rfl) (by rfl) (by rfl) (by kernel_rfl) rfl (zA_one _ _ _ _ _) ?_)
          exact bodyPost_ret (results_ct rfl _ _ (H + 1 + 1) 27 ([.string a, .int .i64 q, .slice A9 (n + 1) c9] : List Value).toArray (0, 0) _ rfl (hb4.setRow ([.string a, .int .i64 q, .slice A9 (n + 1) c9] : List Value)) Try.underlying27 (by rfl) (by rfl)) rfl ⟨_, rfl, by
            rw [HLV.out]
            refine ⟨_, by rw [HQ.out]; rfl, ?_⟩
            have hsr : ∀ cc, Upd (fun j => j = H + 1 + 1) w7 (w7.setRow (H + 1 + 1) cc) := fun cc => Upd.setRow (S := fun j => j = H + 1 + 1) (Upd.refl _ _) (.inl rfl) cc
            have h := HR7.out.less (base := w.heap.size) (by have := HHE.out; omega)
            rw [← ens_snoc] at h
            rw [List.length_append, List.length_singleton]
            rw [← HN.out]; exact h.upd (hsr _) (fun j hj e => by have := HR7.out.base_ j hj; omega), Grew.setRow hg7 (by have := HHE.out; omega) _⟩
end Go.Proofs.Ytmifoihfpjomaaa.F

-- AudH
namespace Go.Proofs.Ytmifoihfpjomaaa.F
open Go Go.RowKit Go.Proofs.YtmifoihfpjomaaaW.PrintWords Go.Proofs.YtmifoihfpjomaaaW.PrintLast Go.Proofs.YtmifoihfpjomaaaW.PrintMore Go.Proofs.YtmifoihfpjomaaaM Go.Proofs.YtmifoihfpjomaaaR
attribute [local go_sem] max2_int min2_int max_two min_two
set_option linter.unusedSimpArgs false
set_option linter.unusedVariables false
set_option maxRecDepth 100000
end Go.Proofs.Ytmifoihfpjomaaa.F

-- AudS
namespace Go.Proofs.Ytmifoihfpjomaaa.F
open Go Go.RowKit Go.Proofs.YtmifoihfpjomaaaW.PrintWords Go.Proofs.YtmifoihfpjomaaaW.PrintLast Go.Proofs.YtmifoihfpjomaaaW.PrintMore Go.Proofs.YtmifoihfpjomaaaM Go.Proofs.YtmifoihfpjomaaaR
attribute [local go_sem] max2_int min2_int max_two min_two
set_option linter.unusedSimpArgs false
set_option linter.unusedVariables false
set_option maxRecDepth 100000
theorem eqEnA (d : Nat) (w : World) (x0 x1 x2 : Int) (x3 : ByteArray) (x4 y0 y1 y2 : Int) (y3 : ByteArray) (y4 : Int) :
    (Op.equalIn (d + 2) 36 (.agg #[.int .i64 x0, .int .i64 x1, .int .i64 x2, .string x3, .int .i64 x4]) (.agg #[.int .i64 y0, .int .i64 y1, .int .i64 y2, .string y3, .int .i64 y4])).run Try.prog w = .ok (x0 == y0 && (x1 == y1 && (x2 == y2 && (x3.toList == y3.toList && (x4 == y4))))) w := by
  refine eqA_of Try.underlying36 (by kernel_rfl) ?_
  refine eqf_cons (by rfl) (by go_simp; rfl) (by go_simp; rfl) (by go_simp) ?_
  refine eqf_cons (by rfl) (by go_simp; rfl) (by go_simp; rfl) (by go_simp) ?_
  refine eqf_cons (by rfl) (by go_simp; rfl) (by go_simp; rfl) (by go_simp) ?_
  refine eqf_cons (by rfl) (by go_simp; rfl) (by go_simp; rfl) (by go_simp) ?_
  exact eqf_last (by rfl) (by go_simp; rfl) (by go_simp; rfl) (by go_simp)
set_option maxHeartbeats 4000000 in
theorem same_c (a : ByteArray) (last : Int) (A1 A2 : Option Addr) (n c1 c2 : Nat) (l : List En) (w : World) (h1 : Kd.C k36 w A1 n l) (h2 : Kd.C k36 w A2 n l) (hn : l.length = n) (hc1 : n ≤ c1) (hc2 : n ≤ c2) (hn2 : n ≤ 1000) :
    Calls Try.prog 12 #[.agg #[.string a, .int .i64 last, .slice A1 n c1], .agg #[.string a, .int .i64 last, .slice A2 n c2]] w (Tells w (Is (.bool true))) := by
  have HN := Lib.hid hn
  obtain ⟨W0, hW0⟩ : ∃ W0, W0 = (w.alloc (.cells #[.string a, .int .i64 last, .slice A1 n c1] 24)).alloc (.cells #[.string a, .int .i64 last, .slice A2 n c2] 24) := ⟨_, rfl⟩
  obtain ⟨H, hH⟩ : ∃ H, H = w.heap.size := ⟨_, rfl⟩
  have hb2 : Blk W0 H 24 [.string a, .int .i64 last, .slice A1 n c1] := by rw [hW0, hH]; exact (Blk.new w _ _).grew (Grew.alloc _ _)
  have hb3 : Blk W0 (H + 1) 24 [.string a, .int .i64 last, .slice A2 n c2] := by
    rw [hW0, hH]
    have := Blk.new (w.alloc (.cells #[.string a, .int .i64 last, .slice A1 n c1] 24)) 24 [.string a, .int .i64 last, .slice A2 n c2]
    simpa using this
  have hgw : Grew w W0 := by rw [hW0]; exact (Grew.alloc _ _).trans (Grew.alloc _ _)
  have HWE := Lib.hid hW0
  have HHE := Lib.hid hH
  have HGW := Lib.hid hgw
  have HB2 := Lib.hid (fun wx (h : Grew W0 wx) => (hb2.grew h).at_ 2)
  have HB3 := Lib.hid (fun wx (h : Grew W0 wx) => (hb3.grew h).at_ 2)
  simp only [List.getElem?_cons_zero, List.getElem?_cons_succ] at HB2 HB3
  have HC1 := Lib.hid (fun wx (h : Grew W0 wx) => Kd.C_below h1 (Grew.trans hgw h))
  have HC2 := Lib.hid (fun wx (h : Grew W0 wx) => Kd.C_below h2 (Grew.trans hgw h))
  have HEQ := Lib.hid (fun (x : En) (w' : World) => show (Op.equalIn 10000 36 (.agg #[.int .i64 x.f0, .int .i64 x.f1, .int .i64 x.f2, .string x.f3, .int .i64 x.f4]) (.agg #[.int .i64 x.f0, .int .i64 x.f1, .int .i64 x.f2, .string x.f3, .int .i64 x.f4])).run Try.prog w' = .ok true w' from by
    have h := eqEnA 9998 w' x.f0 x.f1 x.f2 x.f3 x.f4 x.f0 x.f1 x.f2 x.f3 x.f4
    simpa using h)
  have nn : ((n : Int) != (n : Int)) = false := by simp
  clear h1 h2 hn hb2 hb3 hgw hW0 hH
  go_enter Try.func12, Try.ntmps12
  go_wp2_with fail
  rw [← HWE.out]
  rw [← HHE.out]
  go_loopw [5] (fun iv wr => ∃ i : Nat, iv = .int .i64 (i : Int) ∧ i ≤ n ∧ Grew W0 wr) (fun iv _ => n - (intOf iv).toNat)
  case atStart => exact ⟨0, rfl, Nat.zero_le _, Grew.refl _⟩
  case round =>
    obtain ⟨i, rfl, hi, hgr⟩ := hrel
    have k2 := HB2.out wr hgr
    have k3 := HB3.out wr hgr
    by_cases hlt : i < n
    · have d1 : decide ((i : Int) < (n : Int)) = true := decide_eq_true (by omega)
      have d2 : decide (i < n) = true := decide_eq_true hlt
      have i1 : (i : Int) < (n : Int) := by omega
      obtain ⟨ad1, rfl, a0, a1, a2, a3, a4⟩ := at_T36 (HC1.out wr hgr) (i : Int) (by omega) i1
      obtain ⟨ad2, rfl, b0, b1, b2, b3, b4⟩ := at_T36 (HC2.out wr hgr) (i : Int) (by omega) i1
      obtain ⟨e, he⟩ : ∃ e, e = rd_T36 l (i : Int) := ⟨_, rfl⟩
      rw [Int.toNat_natCast, ← he] at a0 a1 a2 a3 a4 b0 b1 b2 b3 b4
      have heq := HEQ.out e
      obtain ⟨s, t, k, p, x⟩ := e
      simp only at a0 a1 a2 a3 a4 b0 b1 b2 b3 b4 heq
      have HA := Lib.hid (fun wx (h : Grew wr wx) => And.intro (pw_cell_below h a0) (And.intro (pw_cell_below h a1) (And.intro (pw_cell_below h a2) (And.intro (pw_cell_below h a3) (pw_cell_below h a4)))))
      have HBc := Lib.hid (fun wx (h : Grew wr wx) => And.intro (pw_cell_below h b0) (And.intro (pw_cell_below h b1) (And.intro (pw_cell_below h b2) (And.intro (pw_cell_below h b3) (pw_cell_below h b4)))))
      have HEE := Lib.hid heq
      have HGR := Lib.hid hgr
      clear a0 a1 a2 a3 a4 b0 b1 b2 b3 b4 he heq hgr
      go_wp2_with fail
      clear k2 k3
      apply region_grew [Is _, Is _, Is _, Is _, Is _, Is _, Is _, Is _, Is _, Is _] [([(2, none)], none), ([(34, some 0)], none), ([(5, none)], none), ([(35, some 1), (36, some 2)], none), ([(37, some 3)], none), ([(3, none)], none), ([(39, some 5)], none), ([(5, none)], none), ([(40, some 6), (41, some 7)], none), ([(42, some 8)], none)] [(34, 0), (35, 1), (36, 2), (37, 3), (38, 4), (39, 5), (40, 6), (41, 7), (42, 8), (43, 9)] rfl (by kernel_rfl) (by kernel_rfl) (show Stable Grew _ from ⟨Is.stable _, Is.stable _, Is.stable _, Is.stable _, Is.stable _, Is.stable _, Is.stable _, Is.stable _, Is.stable _, Is.stable _, trivial⟩)
      · show OpsHold _ _ _ _ _ _ _ _ _
        refine ⟨fun a_ wx hR hD K hK => ?_, ?_⟩
        · have hG : Grew wr wx := (Grew.drew _).trans hR
          simp [Deps, Dep, at_, Is] at hD
          go_simp
          exact hK _ _ (Grew.refl _) rfl
        refine ⟨fun a_ wx hR hD K hK => ?_, ?_⟩
        · have hG : Grew wr wx := (Grew.drew _).trans hR
          simp [Deps, Dep, at_, Is] at hD
          have e_ := HB2.out wx (Grew.trans HGR.out hG)
          go_simp
          exact hK _ _ (Grew.refl _) rfl
        refine ⟨fun a_ wx hR hD K hK => ?_, ?_⟩
        · have hG : Grew wr wx := (Grew.drew _).trans hR
          simp [Deps, Dep, at_, Is] at hD
          go_simp
          exact hK _ _ (Grew.refl _) rfl
        refine ⟨fun a_ wx hR hD K hK => ?_, ?_⟩
        · have hG : Grew wr wx := (Grew.drew _).trans hR
          simp [Deps, Dep, at_, Is] at hD
          obtain ⟨hd0, hd1⟩ := hD
          go_simp
          exact hK _ _ (Grew.refl _) rfl
        refine ⟨fun a_ wx hR hD K hK => ?_, ?_⟩
        · have hG : Grew wr wx := (Grew.drew _).trans hR
          simp [Deps, Dep, at_, Is] at hD
          obtain ⟨e0, e1, e2, e3, e4⟩ := HA.out wx hG
          go_simp
          exact hK _ _ (Grew.refl _) rfl
        refine ⟨fun a_ wx hR hD K hK => ?_, ?_⟩
        · have hG : Grew wr wx := (Grew.drew _).trans hR
          simp [Deps, Dep, at_, Is] at hD
          go_simp
          exact hK _ _ (Grew.refl _) rfl
        refine ⟨fun a_ wx hR hD K hK => ?_, ?_⟩
        · have hG : Grew wr wx := (Grew.drew _).trans hR
          simp [Deps, Dep, at_, Is] at hD
          have e_ := HB3.out wx (Grew.trans HGR.out hG)
          go_simp
          exact hK _ _ (Grew.refl _) rfl
        refine ⟨fun a_ wx hR hD K hK => ?_, ?_⟩
        · have hG : Grew wr wx := (Grew.drew _).trans hR
          simp [Deps, Dep, at_, Is] at hD
          go_simp
          exact hK _ _ (Grew.refl _) rfl
        refine ⟨fun a_ wx hR hD K hK => ?_, ?_⟩
        · have hG : Grew wr wx := (Grew.drew _).trans hR
          simp [Deps, Dep, at_, Is] at hD
          obtain ⟨hd0, hd1⟩ := hD
          go_simp
          exact hK _ _ (Grew.refl _) rfl
        refine ⟨fun a_ wx hR hD K hK => ?_, ?_⟩
        · have hG : Grew wr wx := (Grew.drew _).trans hR
          simp [Deps, Dep, at_, Is] at hD
          obtain ⟨e0, e1, e2, e3, e4⟩ := HBc.out wx hG
          go_simp
          exact hK _ _ (Grew.refl _) rfl
        trivial
      · show EndHold _ _ _ _ _ _ _
        refine end_all (xs := [_, _, _, _, _, _, _, _, _, _]) ⟨rfl, rfl, rfl, rfl, rfl, rfl, rfl, rfl, rfl, rfl, trivial⟩ ?_
        rintro w2 hR1 -
        refine ⟨?_⟩
        have hG_w2 : Grew wr w2 := (Grew.drew _).trans hR1
        clear hR1
        simp only [Act.put, List.setIfInBounds_toArray, List.set_cons_succ, List.set_cons_zero, dropN, putEach]
        have e_ := HEE.out
        go_wp2_with fail
        clear e_
        go_roundw
        case rel => exact ⟨i + 1, by go_num, by omega, Grew.trans HGR.out hG_w2⟩
        case measure => simp [intOf]; omega
    · have d1 : decide ((i : Int) < (n : Int)) = false := decide_eq_false (by omega)
      have d2 : decide (i < n) = false := decide_eq_false hlt
      go_wp2_with fail
      go_ret
      exact ⟨_, rfl, rfl, Grew.trans HGW.out hgr⟩
end Go.Proofs.Ytmifoihfpjomaaa.F

-- AudL
namespace Go.Proofs.Ytmifoihfpjomaaa.F
open Go Go.RowKit Go.Proofs.YtmifoihfpjomaaaW.PrintWords Go.Proofs.YtmifoihfpjomaaaW.PrintLast Go.Proofs.YtmifoihfpjomaaaW.PrintMore Go.Proofs.YtmifoihfpjomaaaM Go.Proofs.YtmifoihfpjomaaaR
attribute [local go_sem] max2_int min2_int max_two min_two
set_option linter.unusedSimpArgs false
set_option linter.unusedVariables false
set_option maxRecDepth 100000
theorem theirs_c (a : ByteArray) (last : Int) (A : Option Addr) (n c : Nat) (w : World) : Calls Try.prog 13 #[.agg #[.string a, .int .i64 last, .slice A n c]] w (Tells w (Is (.agg #[.string a, .int .i64 last, .slice A n c]))) := by
  go_enter Try.func13, Try.ntmps13
  go_wp2_with fail
  exact bodyPost_ret (v := .agg #[.string a, .int .i64 last, .slice A n c]) (by simp [results, Try.results13, go_sem]) rfl ⟨_, rfl, rfl, by repeat (first | exact Grew.refl _ | exact Grew.trans (Grew.alloc _ _) (Grew.alloc _ _))⟩
/-- an audit whose entries are read -/
def AuV (a : ByteArray) (last : Int) (l : List En) : World → Value → Prop := fun w v => ∃ A c, v = .agg #[.string a, .int .i64 last, .slice A l.length c] ∧ l.length ≤ c ∧ Kd.C k36 w A l.length l
theorem anew_c (w : World) : Calls Try.prog 11 #[] w (Tells w (AuV (strOfNums (List.replicate 32 0)) 0 [])) := by
  refine (audit_New.calls (strOfNums (List.replicate 32 0)) 0 [] w (by unfold audit_New.f; rw [if_pos (by decide)])).mono fun e w' ⟨v, he, hR, hb⟩ => ?_
  obtain ⟨A', c', rfl, hc', hC⟩ := Kd.R_reads hR
  exact ⟨_, he, ⟨A', c', rfl, hc', hC⟩, hb⟩
def Z32 : ByteArray := strOfNums (List.replicate 32 0)
theorem z32_size : Z32.size = 32 := by unfold Z32; rw [str_size, List.length_replicate]
set_option maxHeartbeats 4000000 in
theorem lives_c (w : World) : Calls Try.prog 10 #[] w (Tells w (Is (.bool true))) := by
  have hA := fun (w : World) (A : Option Addr) (c : Nat) (hr : Kd.C k36 w A 0 []) => add_c Z32 0 A c [] 0 3 1 ⟨#[97]⟩ 0 w hr (Nat.zero_le _)
  have hp : addP Z32 0 [] ⟨0, 3, 1, ⟨#[97]⟩, 0⟩ = some (Z32, [⟨1, 3, 1, ⟨#[97]⟩, 0⟩]) := by
    unfold addP
    have h1 : mayP Z32 0 [] = true := by unfold mayP; rw [z32_size]; rfl
    rw [h1]
    rfl
  rw [hp] at hA
  have HADD := Lib.hid hA
  have hgd : goodP ⟨1, 3, 1, ⟨#[97]⟩, 0⟩ = true := by rfl
  have HDG := Lib.hid (fun (w : World) (A : Option Addr) (c : Nat) (hr : Kd.C k36 w A 1 [⟨1, 3, 1, ⟨#[97]⟩, 0⟩]) (hc : 1 ≤ c) => digest_c Z32 1 A c [⟨1, 3, 1, ⟨#[97]⟩, 0⟩] w hr hc)
  have hdp : digP Z32 1 [⟨1, 3, 1, ⟨#[97]⟩, 0⟩] = strOfNums (sealL (bytesOf Z32) (bytesE ⟨1, 3, 1, ⟨#[97]⟩, 0⟩)) := by
    unfold digP
    have h1 : mayP Z32 1 [⟨1, 3, 1, ⟨#[97]⟩, 0⟩] = true := by unfold mayP; rw [z32_size]; rfl
    rw [h1]; rfl
  rw [hdp] at HDG
  obtain ⟨S, hS⟩ : ∃ S, S = strOfNums (sealL (bytesOf Z32) (bytesE ⟨1, 3, 1, ⟨#[97]⟩, 0⟩)) := ⟨_, rfl⟩
  obtain ⟨BY, hBY⟩ : ∃ BY, BY = strOfNums (bytesE ⟨1, 3, 1, ⟨#[97]⟩, 0⟩) := ⟨_, rfl⟩
  have HRB := Lib.hid (fun w => rbytes_c 1 3 1 ⟨#[97]⟩ 0 hgd w)
  have HSE := Lib.hid (fun w => seal_c w (bytesOf Z32) (bytesE ⟨1, 3, 1, ⟨#[97]⟩, 0⟩) (bytesOf_bytes _) (bytesE_bytes _) (by rw [bytesOf_length, z32_size]; omega) (by have := bytesE_len hgd; omega))
  rw [str_bytes, ← hBY, ← hS] at HSE
  rw [← hBY] at HRB
  rw [← hS] at HDG
  obtain ⟨Z, hZ⟩ : ∃ Z, Z = Z32 := ⟨_, rfl⟩
  have hZ2 : strOfNums (List.replicate 32 0) = Z := by rw [hZ]; rfl
  have HNEW := Lib.hid (fun w => anew_c w)
  rw [hZ2] at HNEW
  rw [← hZ] at HADD HDG HSE
  obtain ⟨L32, hL32⟩ : ∃ L : List Int, L = List.replicate 32 0 := ⟨_, rfl⟩
  have HL3 := Lib.hid (show L32.length = 32 from by rw [hL32, List.length_replicate])
  have HZ3 := Lib.hid (show strOfNums L32 = Z from by rw [hL32]; exact hZ2)
  have HL32 := Lib.hid hL32
  clear hL32
  have HZ2 := Lib.hid hZ2
  clear hA hp hdp hS hBY hZ hZ2 hgd
  go_enter Try.func10, Try.ntmps10
  go_wp2_with fail
  refine (HNEW.out w).mono ?_
  rintro e w1 ⟨_, rfl, ⟨A, c, rfl, hc, hC⟩, hg1⟩
  simp only [List.length_nil]
  go_wp2_with fail
  refine (HADD.out w1 A c hC).mono ?_
  rintro e w2 ⟨_, rfl, ⟨v0, rfl, hro⟩, hg2⟩
  obtain ⟨A2, c2, rfl, hc2, hC2⟩ := rowO_C hro rfl
  obtain ⟨g2, o2, cap2, hv2, -, -, -, hcell, -⟩ := hro.at_ (by simp)
  injection hv2 with hv21 hv22 hv23
  subst hv21 hv23
  simp only [List.length_cons, List.length_nil, Nat.zero_add] at hC2 hc2 hv22
  have c0 := hcell 0 (by simp)
  have c1 := hcell 1 (by simp)
  have c2' := hcell 2 (by simp)
  have c3 := hcell 3 (by simp)
  have c4 := hcell 4 (by simp)
  simp [ens, enc5] at c0 c1 c2' c3 c4
  obtain ⟨W3, hW3⟩ : ∃ W3, W3 = w2.alloc (.cells #[.string Z, .int .i64 1, .slice (some ⟨g2, o2, none⟩) 1 c2] 27) := ⟨_, rfl⟩
  obtain ⟨g3, hg3⟩ : ∃ g3, g3 = w2.heap.size := ⟨_, rfl⟩
  have hb3 : Blk W3 g3 27 [.string Z, .int .i64 1, .slice (some ⟨g2, o2, none⟩) 1 c2] := by rw [hW3, hg3]; exact Blk.new _ _ _
  have hgr3 : Grew w2 W3 := by rw [hW3]; exact Grew.alloc _ _
  have HB := Lib.hid (fun wx (h : Grew W3 wx) => And.intro ((hb3.grew h).at_ 0) (And.intro ((hb3.grew h).at_ 1) ((hb3.grew h).at_ 2)))
  simp only [List.getElem?_cons_zero, List.getElem?_cons_succ] at HB
  have HE := Lib.hid (fun wx (h : Grew W3 wx) => And.intro (pw_cell_below (Grew.trans hgr3 h) c0) (And.intro (pw_cell_below (Grew.trans hgr3 h) c1) (And.intro (pw_cell_below (Grew.trans hgr3 h) c2') (And.intro (pw_cell_below (Grew.trans hgr3 h) c3) (pw_cell_below (Grew.trans hgr3 h) c4)))))
  have HDD := Lib.hid (show ∀ wx, Grew W3 wx → Calls Try.prog 20 #[.agg #[.string Z, .int .i64 1, .slice (some ⟨g2, o2, none⟩) 1 c2]] wx (Tells wx (Is (.string S))) from fun wx h => HDG.out wx _ c2 (Kd.C_below hC2 (Grew.trans hgr3 h)) hc2)
  have HGW := Lib.hid (show Grew w W3 from Grew.trans (Grew.trans hg1 hg2) hgr3)
  have HWE := Lib.hid hW3
  have HGE := Lib.hid hg3
  clear hC2 hro hcell c0 c1 c2' c3 c4 hb3 hgr3 hW3 hg3 hC hg1 hg2 hv22
  go_wp2_with fail
  rw [← HWE.out]
  rw [← HGE.out]
  apply region_grew [Is _, Is _, Is _, Is _, Is _, Is _, Is _, Is _, Is _, Is _, Is _, Is _, Is _, Is _, Is _, Is _, Row L32, Is _, Is _, Is _, Is _, Is _, Is _] [([(2, none)], none), ([(9, some 0)], none), ([(10, some 1)], none), ([(1, none), (11, some 2)], some (11, true)), ([(12, some 3), (11, some 2)], some (11, true)), ([(13, some 4), (11, some 2)], some (11, true)), ([(11, some 2), (14, some 5)], none), ([(15, some 6)], none), ([(1, none), (16, some 7)], some (16, true)), ([(17, some 8), (16, some 7)], some (16, true)), ([(18, some 9), (16, some 7)], some (16, true)), ([(19, some 10), (16, some 7)], some (16, true)), ([(16, some 7), (20, some 11)], none), ([(21, some 12)], none), ([(1, none), (22, some 13)], some (22, true)), ([(23, some 14), (22, some 13)], some (22, true)), ([(22, some 13)], some (22, true)), ([(25, some 16), (22, some 13)], some (22, true)), ([(1, none), (22, some 13)], some (22, true)), ([(27, some 18), (22, some 13)], some (22, true)), ([(28, some 19), (22, some 13)], some (22, true)), ([(29, some 20), (22, some 13)], some (22, true)), ([(30, some 21), (22, some 13)], some (22, true))] [(25, 16), (9, 0), (10, 1), (11, 2), (12, 3), (13, 4), (14, 5), (15, 6), (16, 7), (17, 8), (18, 9), (19, 10), (20, 11), (21, 12), (22, 13), (23, 14), (24, 15), (26, 17), (27, 18), (28, 19), (29, 20), (30, 21), (31, 22)] rfl (by kernel_rfl) (by kernel_rfl) (show Stable Grew _ from ⟨Is.stable _, Is.stable _, Is.stable _, Is.stable _, Is.stable _, Is.stable _, Is.stable _, Is.stable _, Is.stable _, Is.stable _, Is.stable _, Is.stable _, Is.stable _, Is.stable _, Is.stable _, Is.stable _, Row.stable _, Is.stable _, Is.stable _, Is.stable _, Is.stable _, Is.stable _, Is.stable _, trivial⟩)
  · show OpsHold _ _ _ _ _ _ _ _ _
    refine ⟨fun a_ wx hR hD K hK => ?_, ?_⟩
    · have hG : Grew W3 wx := (Grew.drew _).trans hR
      simp [Deps, Dep, at_, Is] at hD
      go_simp
      exact hK _ _ (Grew.refl _) rfl
    refine ⟨fun a_ wx hR hD K hK => ?_, ?_⟩
    · have hG : Grew W3 wx := (Grew.drew _).trans hR
      simp [Deps, Dep, at_, Is] at hD
      go_simp
      exact hK _ _ (Grew.refl _) rfl
    refine ⟨fun a_ wx hR hD K hK => ?_, ?_⟩
    · have hG : Grew W3 wx := (Grew.drew _).trans hR
      simp [Deps, Dep, at_, Is] at hD
      go_simp
      exact hK _ _ (Grew.refl _) rfl
    refine ⟨fun a_ wx hR hD => ⟨fun hgd K hK => ?_, fun hgd => ?_⟩, ?_⟩
    · have hG : Grew W3 wx := (Grew.drew _).trans hR
      clear hgd
      simp [Deps, Dep, at_, Is] at hD
      obtain ⟨hd0, hd1⟩ := hD
      go_simp
      exact hK _ _ (Grew.refl _) rfl
    · have hG : Grew W3 wx := (Grew.drew _).trans hR
      exfalso
      simp [Deps, Dep, at_, Is] at hD
      simp_all
    refine ⟨fun a_ wx hR hD => ⟨fun hgd K hK => ?_, fun hgd => ?_⟩, ?_⟩
    · have hG : Grew W3 wx := (Grew.drew _).trans hR
      clear hgd
      simp [Deps, Dep, at_, Is] at hD
      obtain ⟨hd0, hd1⟩ := hD
      have e_ := (HB.out wx hG).2.1
      go_simp
      exact hK _ _ (Grew.refl _) rfl
    · have hG : Grew W3 wx := (Grew.drew _).trans hR
      exfalso
      simp [Deps, Dep, at_, Is] at hD
      simp_all
    refine ⟨fun a_ wx hR hD => ⟨fun hgd K hK => ?_, fun hgd => ?_⟩, ?_⟩
    · have hG : Grew W3 wx := (Grew.drew _).trans hR
      clear hgd
      simp [Deps, Dep, at_, Is] at hD
      obtain ⟨hd0, hd1⟩ := hD
      go_simp
      exact hK _ _ (Grew.refl _) rfl
    · have hG : Grew W3 wx := (Grew.drew _).trans hR
      exfalso
      simp [Deps, Dep, at_, Is] at hD
      simp_all
    refine ⟨fun a_ wx hR hD K hK => ?_, ?_⟩
    · have hG : Grew W3 wx := (Grew.drew _).trans hR
      simp [Deps, Dep, at_, Is] at hD
      obtain ⟨hd0, hd1⟩ := hD
      go_simp
      exact hK _ _ (Grew.refl _) rfl
    refine ⟨fun a_ wx hR hD K hK => ?_, ?_⟩
    · have hG : Grew W3 wx := (Grew.drew _).trans hR
      simp [Deps, Dep, at_, Is] at hD
      go_simp
      exact hK _ _ (Grew.refl _) rfl
    refine ⟨fun a_ wx hR hD => ⟨fun hgd K hK => ?_, fun hgd => ?_⟩, ?_⟩
    · have hG : Grew W3 wx := (Grew.drew _).trans hR
      clear hgd
      simp [Deps, Dep, at_, Is] at hD
      obtain ⟨hd0, hd1⟩ := hD
      go_simp
      exact hK _ _ (Grew.refl _) rfl
    · have hG : Grew W3 wx := (Grew.drew _).trans hR
      exfalso
      simp [Deps, Dep, at_, Is] at hD
      simp_all
    refine ⟨fun a_ wx hR hD => ⟨fun hgd K hK => ?_, fun hgd => ?_⟩, ?_⟩
    · have hG : Grew W3 wx := (Grew.drew _).trans hR
      clear hgd
      simp [Deps, Dep, at_, Is] at hD
      obtain ⟨hd0, hd1⟩ := hD
      have e_ := (HB.out wx hG).2.2
      go_simp
      exact hK _ _ (Grew.refl _) rfl
    · have hG : Grew W3 wx := (Grew.drew _).trans hR
      exfalso
      simp [Deps, Dep, at_, Is] at hD
      simp_all
    refine ⟨fun a_ wx hR hD => ⟨fun hgd K hK => ?_, fun hgd => ?_⟩, ?_⟩
    · have hG : Grew W3 wx := (Grew.drew _).trans hR
      clear hgd
      simp [Deps, Dep, at_, Is] at hD
      obtain ⟨hd0, hd1⟩ := hD
      go_simp
      exact hK _ _ (Grew.refl _) rfl
    · have hG : Grew W3 wx := (Grew.drew _).trans hR
      exfalso
      simp [Deps, Dep, at_, Is] at hD
      simp_all
    refine ⟨fun a_ wx hR hD => ⟨fun hgd K hK => ?_, fun hgd => ?_⟩, ?_⟩
    · have hG : Grew W3 wx := (Grew.drew _).trans hR
      clear hgd
      simp [Deps, Dep, at_, Is] at hD
      obtain ⟨hd0, hd1⟩ := hD
      go_simp
      exact hK _ _ (Grew.refl _) rfl
    · have hG : Grew W3 wx := (Grew.drew _).trans hR
      exfalso
      simp [Deps, Dep, at_, Is] at hD
      simp_all
    refine ⟨fun a_ wx hR hD K hK => ?_, ?_⟩
    · have hG : Grew W3 wx := (Grew.drew _).trans hR
      simp [Deps, Dep, at_, Is] at hD
      obtain ⟨hd0, hd1⟩ := hD
      go_simp
      exact hK _ _ (Grew.refl _) rfl
    refine ⟨fun a_ wx hR hD K hK => ?_, ?_⟩
    · have hG : Grew W3 wx := (Grew.drew _).trans hR
      simp [Deps, Dep, at_, Is] at hD
      go_simp
      exact hK _ _ (Grew.refl _) rfl
    refine ⟨fun a_ wx hR hD => ⟨fun hgd K hK => ?_, fun hgd => ?_⟩, ?_⟩
    · have hG : Grew W3 wx := (Grew.drew _).trans hR
      clear hgd
      simp [Deps, Dep, at_, Is] at hD
      obtain ⟨e0, e1, e2⟩ := HB.out wx hG
      go_simp
      exact hK _ _ (Grew.refl _) rfl
    · have hG : Grew W3 wx := (Grew.drew _).trans hR
      exfalso
      simp [Deps, Dep, at_, Is] at hD
      simp_all
    refine ⟨fun a_ wx hR hD => ⟨fun hgd K hK => ?_, fun hgd => ?_⟩, ?_⟩
    · have hG : Grew W3 wx := (Grew.drew _).trans hR
      clear hgd
      simp [Deps, Dep, at_, Is] at hD
      obtain ⟨hd0, hd1⟩ := hD
      go_simp
      have hcn := HDD.out wx hG
      with_reducible refine hcn.mono ?_
      clear hcn
      rintro e wy ⟨v, rfl, hv, hg⟩
      exact hK _ _ hg hv
    · have hG : Grew W3 wx := (Grew.drew _).trans hR
      exfalso
      simp [Deps, Dep, at_, Is] at hD
      simp_all
    refine ⟨fun a_ wx hR hD => ⟨fun hgd K hK => ?_, fun hgd => ?_⟩, ?_⟩
    · have hG : Grew W3 wx := (Grew.drew _).trans hR
      clear hgd
      simp [Deps, Dep, at_, Is] at hD
      have hmk := print_make (P := Try.prog) 45 5 .u8 1 Try.underlying45 info5 (by decide) 32 (by omega)
      rw [show ((32 : Nat) : Int) = 32 from rfl] at hmk
      go_simp
      obtain ⟨Am, cm, hvm, hnm, hcm, hCm⟩ := own_C (own_made wx wx.heap.size 5 .u8 32 (Nat.le_refl _) (by omega))
      exact hK _ _ (Grew.alloc _ _) ⟨Am, cm, by rw [HL3.out]; exact hvm, by rw [HL3.out]; exact hcm, by rw [HL3.out, HL32.out]; exact hCm⟩
    · have hG : Grew W3 wx := (Grew.drew _).trans hR
      exfalso
      simp [Deps, Dep, at_, Is] at hD
      simp_all
    refine ⟨fun a_ wx hR hD => ⟨fun hgd K hK => ?_, fun hgd => ?_⟩, ?_⟩
    · have hG : Grew W3 wx := (Grew.drew _).trans hR
      clear hgd
      simp [Deps, Dep, at_, Is] at hD
      obtain ⟨⟨A_, c_, hv_, -, hC_⟩, hd1⟩ := hD
      have hcv_ := Kd.C_string (P := Try.prog) (c := c_) Try.underlying45 Try.underlying5 Try.underlying9 hC_
      rw [HL3.out] at hv_ hcv_
      rw [HZ3.out] at hcv_
      clear hC_
      go_simp
      exact hK _ _ (Grew.refl _) rfl
    · have hG : Grew W3 wx := (Grew.drew _).trans hR
      exfalso
      simp [Deps, Dep, at_, Is] at hD
      simp_all
    refine ⟨fun a_ wx hR hD => ⟨fun hgd K hK => ?_, fun hgd => ?_⟩, ?_⟩
    · have hG : Grew W3 wx := (Grew.drew _).trans hR
      clear hgd
      simp [Deps, Dep, at_, Is] at hD
      obtain ⟨hd0, hd1⟩ := hD
      go_simp
      exact hK _ _ (Grew.refl _) rfl
    · have hG : Grew W3 wx := (Grew.drew _).trans hR
      exfalso
      simp [Deps, Dep, at_, Is] at hD
      simp_all
    refine ⟨fun a_ wx hR hD => ⟨fun hgd K hK => ?_, fun hgd => ?_⟩, ?_⟩
    · have hG : Grew W3 wx := (Grew.drew _).trans hR
      clear hgd
      simp [Deps, Dep, at_, Is] at hD
      obtain ⟨hd0, hd1⟩ := hD
      have e_ := (HB.out wx hG).2.2
      go_simp
      exact hK _ _ (Grew.refl _) rfl
    · have hG : Grew W3 wx := (Grew.drew _).trans hR
      exfalso
      simp [Deps, Dep, at_, Is] at hD
      simp_all
    refine ⟨fun a_ wx hR hD => ⟨fun hgd K hK => ?_, fun hgd => ?_⟩, ?_⟩
    · have hG : Grew W3 wx := (Grew.drew _).trans hR
      clear hgd
      simp [Deps, Dep, at_, Is] at hD
      obtain ⟨hd0, hd1⟩ := hD
      go_simp
      exact hK _ _ (Grew.refl _) rfl
    · have hG : Grew W3 wx := (Grew.drew _).trans hR
      exfalso
      simp [Deps, Dep, at_, Is] at hD
      simp_all
    refine ⟨fun a_ wx hR hD => ⟨fun hgd K hK => ?_, fun hgd => ?_⟩, ?_⟩
    · have hG : Grew W3 wx := (Grew.drew _).trans hR
      clear hgd
      simp [Deps, Dep, at_, Is] at hD
      obtain ⟨e0, e1, e2, e3, e4⟩ := HE.out wx hG
      go_simp
      exact hK _ _ (Grew.refl _) rfl
    · have hG : Grew W3 wx := (Grew.drew _).trans hR
      exfalso
      simp [Deps, Dep, at_, Is] at hD
      simp_all
    refine ⟨fun a_ wx hR hD => ⟨fun hgd K hK => ?_, fun hgd => ?_⟩, ?_⟩
    · have hG : Grew W3 wx := (Grew.drew _).trans hR
      clear hgd
      simp [Deps, Dep, at_, Is] at hD
      obtain ⟨hd0, hd1⟩ := hD
      go_simp
      have hcn := HRB.out wx
      with_reducible refine hcn.mono ?_
      clear hcn
      rintro e wy ⟨v, rfl, hv, hg⟩
      exact hK _ _ hg hv
    · have hG : Grew W3 wx := (Grew.drew _).trans hR
      exfalso
      simp [Deps, Dep, at_, Is] at hD
      simp_all
    trivial
  · show EndHold _ _ _ _ _ _ _
    intro v25
    refine end_all (xs := [_, _, _, _, _, _, _, _, _, _, _, _, _, _, _, _, _, _, _, _, _, _]) ⟨rfl, rfl, rfl, rfl, rfl, rfl, rfl, rfl, rfl, rfl, rfl, rfl, rfl, rfl, rfl, rfl, rfl, rfl, rfl, rfl, rfl, rfl, trivial⟩ ?_
    rintro w4 hR1 ⟨-, hMk⟩
    refine ⟨?_⟩
    have hG_w4 : Grew W3 w4 := (Grew.drew _).trans hR1
    clear hR1
    simp only [Act.put, List.setIfInBounds_toArray, List.set_cons_succ, List.set_cons_zero, dropN, putEach]
    go_wp2_with fail
    refine (HSE.out w4).mono ?_
    rintro e w5 ⟨_, rfl, rfl, hg5⟩
    go_wp2_with fail
    go_ret
    exact ⟨_, rfl, rfl, Grew.trans (Grew.trans HGW.out hG_w4) hg5⟩
end Go.Proofs.Ytmifoihfpjomaaa.F

-- AudO
namespace Go.Proofs.Ytmifoihfpjomaaa.F
open Go Go.RowKit Go.Proofs.YtmifoihfpjomaaaW.PrintWords Go.Proofs.YtmifoihfpjomaaaW.PrintLast Go.Proofs.YtmifoihfpjomaaaW.PrintMore Go.Proofs.YtmifoihfpjomaaaM Go.Proofs.YtmifoihfpjomaaaR
attribute [local go_sem] max2_int min2_int max_two min_two
set_option linter.unusedSimpArgs false
set_option linter.unusedVariables false
set_option maxRecDepth 100000
/-- entries that are numbered from 1 on, and good -/
def numd (l : List En) : Prop := ∀ (i : Nat) (e : En), l[i]? = some e → e.f0 = (i : Int) + 1 ∧ goodP e = true
def ofA (l : List En) : ByteArray := strOfNums (chainE (bytesOf Z32) (l.take (l.length - 8)))
theorem numd_good {l : List En} (h : numd l) : ∀ e ∈ l, goodP e = true := fun e he => by
  obtain ⟨i, hi⟩ := List.mem_iff_getElem?.1 he
  exact (h i e hi).2
set_option maxHeartbeats 8000000 in
theorem of_c (A : Option Addr) (c : Nat) (l : List En) (w : World) (hr : Kd.C k36 w A l.length l) (hc : l.length ≤ c) (hl : l.length ≤ 1000) (hnum : numd l) :
    Calls Try.prog 14 #[.slice A l.length c] w (Tells w (AuV (ofA l) (l.length : Int) (l.drop (l.length - 8)))) := by
  obtain ⟨n, hn⟩ : ∃ n, n = l.length := ⟨_, rfl⟩
  have HN := Lib.hid hn
  rw [← hn] at hr hc hl ⊢
  have HR := Lib.hid (fun wx (h : Grew w wx) => Kd.C_below hr h)
  have HNU := Lib.hid hnum
  have hmk := print_make (P := Try.prog) 45 5 .u8 1 Try.underlying45 info5 (by decide) 32 (by omega)
  rw [show ((32 : Nat) : Int) = 32 from rfl] at hmk
  have hst := fun (w2 : World) => own_string (P := Try.prog) Try.underlying45 Try.underlying5 Try.underlying9 (own_made w2 w2.heap.size 5 .u8 32 (Nat.le_refl _) (by omega))
  rw [show strOfNums (List.replicate 32 0) = Z32 from rfl] at hst
  obtain ⟨Z, hZ⟩ : ∃ Z, Z = Z32 := ⟨_, rfl⟩
  rw [← hZ] at hst
  have HZ := Lib.hid hZ
  clear hr hnum hn hZ
  have hst := hst (w.alloc (.cells #[.string ⟨#[]⟩, .int .i64 0, .slice none 0 0] 24))
  rw [show (w.alloc (.cells #[.string ⟨#[]⟩, .int .i64 0, .slice none 0 0] 24)).heap.size = w.heap.size + 1 from by simp] at hst
  obtain ⟨H, hH⟩ : ∃ H, H = w.heap.size := ⟨_, rfl⟩
  obtain ⟨W1, hW1⟩ : ∃ W1, W1 = ((w.alloc (.cells #[.string ⟨#[]⟩, .int .i64 0, .slice none 0 0] 24)).alloc (.cells (madeCells #[.int .u8 0] 32) 5)).alloc (.cells #[.string Z, .int .i64 (n : Int), .slice none 0 0] 24) := ⟨_, rfl⟩
  have hb1 : Blk W1 H 24 [.string ⟨#[]⟩, .int .i64 0, .slice none 0 0] := by rw [hW1, hH]; exact ((Blk.new w _ _).grew (Grew.alloc _ _)).grew (Grew.alloc _ _)
  have hb3 : Blk W1 (H + 1 + 1) 24 [.string Z, .int .i64 (n : Int), .slice none 0 0] := by
    rw [hW1, hH]
    have := Blk.new ((w.alloc (.cells #[.string ⟨#[]⟩, .int .i64 0, .slice none 0 0] 24)).alloc (.cells (madeCells #[.int .u8 0] 32) 5)) 24 [.string Z, .int .i64 (n : Int), .slice none 0 0]
    simpa using this
  have hg1 : Grew w W1 := by rw [hW1]; exact ((Grew.alloc _ _).trans (Grew.alloc _ _)).trans (Grew.alloc _ _)
  have hs1 : W1.heap.size = H + 1 + 1 + 1 := by rw [hW1, hH]; simp
  have HWE := Lib.hid hW1
  have HHE := Lib.hid hH
  have HB1 := Lib.hid hb1
  have HB3 := Lib.hid hb3
  have HG1 := Lib.hid hg1
  have HS1 := Lib.hid hs1
  clear hW1 hH hb1 hb3 hg1 hs1
  go_enter Try.func14, Try.ntmps14
  go_wp2_with fail
  rw [← HWE.out]
  rw [← HHE.out]
  clear hmk hst
  go_loopw [4, 5] (fun v4 iv wr => ∃ i : Nat, iv = .int .i64 (i : Int) ∧ i ≤ n ∧ wr.ownsRow (H + 1 + 1 + 1) 36 5 v4 (l.take i).length (ens (l.take i)) ∧ Grew W1 wr) (fun _ iv _ => n - (intOf iv).toNat)
  case atStart => exact ⟨0, rfl, Nat.zero_le _, own_nil _ _ _ _, Grew.refl _⟩
  case round =>
    obtain ⟨i, rfl, hi, hown, hgr⟩ := hrel
    have hli : (l.take i).length = i := by rw [List.length_take, ← HN.out]; omega
    rw [hli] at hown
    obtain ⟨A4, c4, hv4⟩ := own_slice hown
    subst hv4
    by_cases hlt : i < n
    · have d1 : decide ((i : Int) < (n : Int)) = true := decide_eq_true (by omega)
      have d2 : decide (i < n) = true := decide_eq_true hlt
      have i1 : (i : Int) < (n : Int) := by omega
      obtain ⟨ad0, rfl, k0, k1, k2, k3, k4⟩ := at_T36 (HR.out wr (Grew.trans HG1.out hgr)) (i : Int) (by omega) i1
      obtain ⟨e, he⟩ : ∃ e, l[i]? = some e := ⟨_, List.getElem?_eq_getElem (by rw [← HN.out]; exact hlt)⟩
      have hxe : rd_T36 l (i : Int) = e := by unfold rd_T36; rw [Int.toNat_natCast, List.getD, he]; rfl
      rw [Int.toNat_natCast, hxe] at k0 k1 k2 k3 k4
      have hf0 := (HNU.out i e he).1
      obtain ⟨s, t, k, p, x⟩ := e
      simp only at k0 k1 k2 k3 k4 hf0
      have HTK := Lib.hid (show l.take (i + 1) = l.take i ++ [⟨s, t, k, p, x⟩] from by rw [List.take_add_one, he]; rfl)
      obtain ⟨g6, hg6⟩ : ∃ g6, g6 = wr.heap.size := ⟨_, rfl⟩
      obtain ⟨W2, hW2⟩ : ∃ W2, W2 = wr.alloc (.cells #[.int .i64 s, .int .i64 t, .int .i64 k, .string p, .int .i64 x] 36) := ⟨_, rfl⟩
      have hgr2 : Grew wr W2 := by rw [hW2]; exact Grew.alloc _ _
      have hGs := Lib.hid (Grew.trans hgr2 (Grew.alloc _ (.cells (enc5 ⟨s, t, k, p, x⟩).toArray 36)))
      obtain ⟨v8, w8, hrun, hown8, hgr8, -⟩ := app_cells (P := Try.prog) (W2.alloc (.cells (enc5 ⟨s, t, k, p, x⟩).toArray 36)) (H + 1 + 1 + 1) 22 36 22 (.agg #[.int .i64 0, .int .i64 0, .int .i64 0, .string ⟨#[]⟩, .int .i64 0]) 5 48 Try.underlying22 infoEn rfl (by decide) (by decide) (.slice A4 i c4) i (ens (l.take i)) W2.heap.size (enc5 ⟨s, t, k, p, x⟩) rfl (enc5_one ⟨s, t, k, p, x⟩) (pw_own_below hown hGs.out) (Blk.new _ _ _) (Nat.le_trans (by rw [← HS1.out]; exact hgr.size) hGs.out.size) (by omega)
      have hgr8' : Grew W1 w8 := ((Upd.of_grew (S := fun j => H + 1 + 1 + 1 ≤ j) (Grew.trans hgr hGs.out)).trans ((Upd.of_grown hgr8).mono (fun j _ hj => own_base hown j hj))).grew (fun j hj e => by have := HS1.out; omega)
      have hfin : w8.ownsRow (H + 1 + 1 + 1) 36 5 v8 (l.take (i + 1)).length (ens (l.take (i + 1))) := by
        rw [HTK.out, List.length_append, hli, ens_snoc]
        exact hown8
      rw [hW2, show (wr.alloc (.cells #[.int .i64 s, .int .i64 t, .int .i64 k, .string p, .int .i64 x] 36)).heap.size = wr.heap.size + 1 from by simp] at hrun
      have HRUN := Lib.hid hrun
      have HG8 := Lib.hid hgr8'
      have HF := Lib.hid hfin
      have hw : IntKind.i64.wrap ((i : Int) + 1) = (i : Int) + 1 := IntWalk.i64_in _ (by omega)
      subst hf0
      clear hgr8' hfin hrun hown8 hgr8 hGs hgr2 hW2 hg6 he hxe hown hli hgr
      go_wp2_with (at_builtin; refine wpList_app (by rfl) (.tmp 26) (.tmp 28) 22 (by rfl) (by rfl) (by rfl) HRUN.out ?_)
      go_roundw
      case rel => exact ⟨i + 1, by go_num, by omega, HF.out, HG8.out⟩
      case measure => simp [intOf]; omega
    · obtain rfl : i = n := by omega
      have d1 : decide ((i : Int) < (i : Int)) = false := decide_eq_false (by omega)
      have d2 : decide (i < i) = false := decide_eq_false (by omega)
      have htl : l.take i = l := List.take_of_length_le (by rw [← HN.out]; exact Nat.le_refl _)
      rw [htl] at hown
      have HO := Lib.hid hown
      have hci := own_le hown
      obtain ⟨A9, c9, hv9, -, hC9⟩ := own_ens_C hown HN.out.symm
      injection hv9 with hv91 hv92 hv93
      subst hv91 hv93
      -- the cut
      obtain ⟨q, hq⟩ : ∃ q, q = i - 8 := ⟨_, rfl⟩
      have hqi : q ≤ i := by omega
      have hCt := C_takeE hC9 hqi
      have HCH := Lib.hid (fun wx (h : Grew wr wx) => rachain_c wx (bytesOf Z32) A4 q c4 (l.take q) (Kd.C_below hCt h) (by rw [List.length_take, ← HN.out]; omega) (by omega) (by omega) (bytesOf_bytes _) (by rw [bytesOf_length, z32_size]; omega) (fun e he => numd_good HNU.out e (List.mem_of_mem_take he)))
      rw [str_bytes] at HCH
      obtain ⟨S, hS⟩ : ∃ S, S = strOfNums (chainE (bytesOf Z32) (l.take q)) := ⟨_, rfl⟩
      have hSof : S = ofA l := by rw [hS, hq]; unfold ofA; rw [← HN.out]
      rw [← hS, ← HZ.out] at HCH
      obtain ⟨i0, hi0, hi1⟩ := Option.map_eq_some_iff.1 infoEn
      have hi2 : i0.size = 5 := by simp only [Prod.mk.injEq] at hi1; exact hi1.2.1
      obtain ⟨v9, hcut, hro9, hbk9⟩ := (rowO_of_own hown).cut (P := Try.prog) 22 .i64 Try.underlying22 hi0 hi2 q hqi
      rw [ens_drop] at hro9
      obtain ⟨A9, c9, rfl, -⟩ := hro9.slice
      have HCUT := Lib.hid hcut
      have HRO := Lib.hid hro9
      have HSO := Lib.hid hSof
      have HQ := Lib.hid hq
      have hb3 := HB3.out.grew hgr
      have hb1 := HB1.out.grew hgr
      have hgw := Grew.trans HG1.out hgr
      have hsz : H + 1 + 1 + 1 ≤ wr.heap.size := by rw [← HS1.out]; exact hgr.size
      have C3 := Lib.hid (fun wx (h : Grew wr wx) => hb3.grew h)
      have C1 := Lib.hid (fun wx (h : Grew wr wx) => hb1.grew h)
      have HGW := Lib.hid hgw
      have HGR := Lib.hid hgr
      have HSZ := Lib.hid hsz
      clear hown hC9 hCt hS hSof hi0 hi1 hi2 hcut hro9 hbk9 hb3 hb1 hgw hsz hgr hli htl hv92
      have key : True := trivial
      by_cases h8 : 8 < i
      · have e8 : decide (8 < (i : Int)) = true := decide_eq_true (by omega)
        have e8' : decide (8 < i) = true := decide_eq_true h8
        have hw8 : IntKind.i64.wrap ((i : Int) - 8) = (q : Int) := by rw [IntWalk.i64_in _ (by omega)]; omega
        have hw8' : (i : Int) - 8 = (q : Int) := by omega
        have q1 : (q : Int) ≤ (c4 : Int) := by omega
        have q1' : q ≤ c4 := by omega
        clear h8 hq
        go_wp2_with fail
        apply region_grew [Is _, Is _, Is _, Is _, Is _] [([(3, none)], none), ([(36, some 0)], none), ([(4, none)], none), ([(7, none)], none), ([(38, some 2), (39, some 3)], none)] [(36, 0), (37, 1), (38, 2), (39, 3), (40, 4)] rfl (by kernel_rfl) (by kernel_rfl) (show Stable Grew _ from ⟨Is.stable _, Is.stable _, Is.stable _, Is.stable _, Is.stable _, trivial⟩)
        · show OpsHold _ _ _ _ _ _ _ _ _
          refine ⟨fun a_ wx hR hD K hK => ?_, ?_⟩
          · have hG : Grew wr wx := (Grew.drew _).trans hR
            simp [Deps, Dep, at_, Is] at hD
            go_simp
            exact hK _ _ (Grew.refl _) rfl
          refine ⟨fun a_ wx hR hD K hK => ?_, ?_⟩
          · have hG : Grew wr wx := (Grew.drew _).trans hR
            simp [Deps, Dep, at_, Is] at hD
            have e_ := (C3.out wx hG).at_ 0
            simp only [List.getElem?_cons_zero] at e_
            go_simp
            exact hK _ _ (Grew.refl _) rfl
          refine ⟨fun a_ wx hR hD K hK => ?_, ?_⟩
          · have hG : Grew wr wx := (Grew.drew _).trans hR
            simp [Deps, Dep, at_, Is] at hD
            go_simp
            exact hK _ _ (Grew.refl _) rfl
          refine ⟨fun a_ wx hR hD K hK => ?_, ?_⟩
          · have hG : Grew wr wx := (Grew.drew _).trans hR
            simp [Deps, Dep, at_, Is] at hD
            go_simp
            exact hK _ _ (Grew.refl _) rfl
          refine ⟨fun a_ wx hR hD K hK => ?_, ?_⟩
          · have hG : Grew wr wx := (Grew.drew _).trans hR
            simp [Deps, Dep, at_, Is] at hD
            obtain ⟨hd0, hd1⟩ := hD
            go_simp
            exact hK _ _ (Grew.refl _) rfl
          trivial
        · show EndHold _ _ _ _ _ _ _
          refine end_all (xs := [_, _, _, _, _]) ⟨rfl, rfl, rfl, rfl, rfl, trivial⟩ ?_
          rintro w2 hR1 -
          refine ⟨?_⟩
          have hG_w2 : Grew wr w2 := (Grew.drew _).trans hR1
          clear hR1
          simp only [Act.put, List.setIfInBounds_toArray, List.set_cons_succ, List.set_cons_zero, dropN, putEach]
          go_wp2_with fail
          refine (HCH.out w2 hG_w2).mono ?_
          rintro e w3 ⟨_, rfl, rfl, hg3⟩
          have hG3 := Grew.trans hG_w2 hg3
          have b3 := C3.out w3 hG3
          have k0 := b3.at_ 0
          have z0 := b3.fz 0
          have k1 := b3.at_ 1
          have k2 := b3.at_ 2
          have z2 := b3.fz 2
          simp only [List.getElem?_cons_zero, List.getElem?_cons_succ] at k0 k1 k2
          obtain ⟨W5, hW5⟩ : ∃ W5, W5 = (w3.setCell ⟨H + 1 + 1, 0, none⟩ (.string S)).setCell ⟨H + 1 + 1, 2, none⟩ (.slice A9 (i - q) c9) := ⟨_, rfl⟩
          have hu5 : Upd (fun j => j = H + 1 + 1) w3 W5 := by
            rw [hW5]
            exact Upd.set (S := fun j => j = H + 1 + 1) (p := ⟨H + 1 + 1, 2, none⟩) (Upd.set (S := fun j => j = H + 1 + 1) (p := ⟨H + 1 + 1, 0, none⟩) (Upd.refl _ _) (.inl rfl) _) (.inl rfl) _
          have b5 : Blk W5 (H + 1 + 1) 24 [.string S, .int .i64 (i : Int), .slice A9 (i - q) c9] := by
            rw [hW5]
            exact (b3.set 0 (.string S)).set 2 _
          have b1 := (C1.out w3 hG3).upd hu5 (by omega)
          have hro := ((HRO.out.grew hG3).upd hu5 (fun j hj e => by have := HRO.out.base_ j hj; omega)).upd (S := fun j => j = H) (w' := W5.setRow H ([.string S, .int .i64 (i : Int), .slice A9 (i - q) c9] : List Value).toArray) (Upd.setRow (S := fun j => j = H) (Upd.refl _ _) (.inl rfl) _) (fun j hj e => by have := HRO.out.base_ j hj; omega)
          have hgw5 : Grew w W5 := ((Upd.of_grew (S := fun j => j = H + 1 + 1) (Grew.trans HGW.out hG3)).trans hu5).grew (fun j hj e => by have := HHE.out; omega)
          subst hW5
          have HRO5 := Lib.hid hro
          have HGW5 := Lib.hid hgw5
          have hcut := HCUT.out
          clear b3 hu5 hro hgw5 hG3 hg3 hG_w2
          go_wp2_with (first | refine wpList_load_blk b5 (by rfl) 24 (.tmp 3) (by rfl) (by rfl) _ Try.underlying24 (by rfl) (by kernel_rfl) ?_ | refine wpList_store_blk (c := [.string S, .int .i64 (i : Int), .slice A9 (i - q) c9]) b1 (by rfl) 24 (.tmp 2) (.tmp 47) (by rfl) (by rfl) (by rfl) (by kernel_rfl) rfl (zA_one _ _ _ _ _) ?_)
          have hln : (l.drop (i - 8)).length = (i - q) := by rw [List.length_drop, ← HN.out]; have := HQ.out; omega
          obtain ⟨A10, c10, hv10, hc10, hC10⟩ := rowO_C HRO5.out (by rw [List.length_drop, ← HN.out])
          injection hv10 with hv10a hv10b hv10c
          subst hv10a hv10c
          refine bodyPost_ret (results_blk rfl _ (b1.setRow ([.string S, .int .i64 (i : Int), .slice A9 (i - q) c9] : List Value)) _ (by rfl) Try.underlying24 (by rfl) (by kernel_rfl)) rfl ⟨_, rfl, ⟨A9, c9, by rw [hln, HSO.out], by rw [hln]; exact hc10, by rw [hln, show i - 8 = q from HQ.out.symm]; exact hC10⟩, Grew.setRow HGW5.out (by rw [HHE.out]; exact Nat.le_refl _) _⟩
      · have e8 : decide (8 < (i : Int)) = false := decide_eq_false (by omega)
        have e8' : decide (8 < i) = false := decide_eq_false h8
        obtain rfl : q = 0 := by omega
        rw [Nat.sub_zero] at HCUT HRO
        rw [show ((0 : Nat) : Int) = 0 from rfl] at HCUT
        clear h8 hq
        go_wp2_with fail
        apply region_grew [Is _, Is _, Is _, Is _, Is _] [([(3, none)], none), ([(36, some 0)], none), ([(4, none)], none), ([(7, none)], none), ([(38, some 2), (39, some 3)], none)] [(36, 0), (37, 1), (38, 2), (39, 3), (40, 4)] rfl (by kernel_rfl) (by kernel_rfl) (show Stable Grew _ from ⟨Is.stable _, Is.stable _, Is.stable _, Is.stable _, Is.stable _, trivial⟩)
        · show OpsHold _ _ _ _ _ _ _ _ _
          refine ⟨fun a_ wx hR hD K hK => ?_, ?_⟩
          · have hG : Grew wr wx := (Grew.drew _).trans hR
            simp [Deps, Dep, at_, Is] at hD
            go_simp
            exact hK _ _ (Grew.refl _) rfl
          refine ⟨fun a_ wx hR hD K hK => ?_, ?_⟩
          · have hG : Grew wr wx := (Grew.drew _).trans hR
            simp [Deps, Dep, at_, Is] at hD
            have e_ := (C3.out wx hG).at_ 0
            simp only [List.getElem?_cons_zero] at e_
            go_simp
            exact hK _ _ (Grew.refl _) rfl
          refine ⟨fun a_ wx hR hD K hK => ?_, ?_⟩
          · have hG : Grew wr wx := (Grew.drew _).trans hR
            simp [Deps, Dep, at_, Is] at hD
            go_simp
            exact hK _ _ (Grew.refl _) rfl
          refine ⟨fun a_ wx hR hD K hK => ?_, ?_⟩
          · have hG : Grew wr wx := (Grew.drew _).trans hR
            simp [Deps, Dep, at_, Is] at hD
            go_simp
            exact hK _ _ (Grew.refl _) rfl
          refine ⟨fun a_ wx hR hD K hK => ?_, ?_⟩
          · have hG : Grew wr wx := (Grew.drew _).trans hR
            simp [Deps, Dep, at_, Is] at hD
            obtain ⟨hd0, hd1⟩ := hD
            go_simp
            exact hK _ _ (Grew.refl _) rfl
          trivial
        · show EndHold _ _ _ _ _ _ _
          refine end_all (xs := [_, _, _, _, _]) ⟨rfl, rfl, rfl, rfl, rfl, trivial⟩ ?_
          rintro w2 hR1 -
          refine ⟨?_⟩
          have hG_w2 : Grew wr w2 := (Grew.drew _).trans hR1
          clear hR1
          simp only [Act.put, List.setIfInBounds_toArray, List.set_cons_succ, List.set_cons_zero, dropN, putEach]
          go_wp2_with fail
          refine (HCH.out w2 hG_w2).mono ?_
          rintro e w3 ⟨_, rfl, rfl, hg3⟩
          have hG3 := Grew.trans hG_w2 hg3
          have b3 := C3.out w3 hG3
          have k0 := b3.at_ 0
          have z0 := b3.fz 0
          have k1 := b3.at_ 1
          have k2 := b3.at_ 2
          have z2 := b3.fz 2
          simp only [List.getElem?_cons_zero, List.getElem?_cons_succ] at k0 k1 k2
          obtain ⟨W5, hW5⟩ : ∃ W5, W5 = (w3.setCell ⟨H + 1 + 1, 0, none⟩ (.string S)).setCell ⟨H + 1 + 1, 2, none⟩ (.slice A9 i c9) := ⟨_, rfl⟩
          have hu5 : Upd (fun j => j = H + 1 + 1) w3 W5 := by
            rw [hW5]
            exact Upd.set (S := fun j => j = H + 1 + 1) (p := ⟨H + 1 + 1, 2, none⟩) (Upd.set (S := fun j => j = H + 1 + 1) (p := ⟨H + 1 + 1, 0, none⟩) (Upd.refl _ _) (.inl rfl) _) (.inl rfl) _
          have b5 : Blk W5 (H + 1 + 1) 24 [.string S, .int .i64 (i : Int), .slice A9 i c9] := by
            rw [hW5]
            exact (b3.set 0 (.string S)).set 2 _
          have b1 := (C1.out w3 hG3).upd hu5 (by omega)
          have hro := ((HRO.out.grew hG3).upd hu5 (fun j hj e => by have := HRO.out.base_ j hj; omega)).upd (S := fun j => j = H) (w' := W5.setRow H ([.string S, .int .i64 (i : Int), .slice A9 i c9] : List Value).toArray) (Upd.setRow (S := fun j => j = H) (Upd.refl _ _) (.inl rfl) _) (fun j hj e => by have := HRO.out.base_ j hj; omega)
          have hgw5 : Grew w W5 := ((Upd.of_grew (S := fun j => j = H + 1 + 1) (Grew.trans HGW.out hG3)).trans hu5).grew (fun j hj e => by have := HHE.out; omega)
          subst hW5
          have HRO5 := Lib.hid hro
          have HGW5 := Lib.hid hgw5
          have hcut := HCUT.out
          clear b3 hu5 hro hgw5 hG3 hg3 hG_w2
          go_wp2_with (first | refine wpList_load_blk b5 (by rfl) 24 (.tmp 3) (by rfl) (by rfl) _ Try.underlying24 (by rfl) (by kernel_rfl) ?_ | refine wpList_store_blk (c := [.string S, .int .i64 (i : Int), .slice A9 i c9]) b1 (by rfl) 24 (.tmp 2) (.tmp 47) (by rfl) (by rfl) (by rfl) (by kernel_rfl) rfl (zA_one _ _ _ _ _) ?_)
          have hln : (l.drop (i - 8)).length = i := by rw [List.length_drop, ← HN.out]; have := HQ.out; omega
          obtain ⟨A10, c10, hv10, hc10, hC10⟩ := rowO_C HRO5.out (by rw [List.length_drop, ← HN.out]; omega)
          injection hv10 with hv10a hv10b hv10c
          subst hv10a hv10c
          refine bodyPost_ret (results_blk rfl _ (b1.setRow ([.string S, .int .i64 (i : Int), .slice A9 i c9] : List Value)) _ (by rfl) Try.underlying24 (by rfl) (by kernel_rfl)) rfl ⟨_, rfl, ⟨A9, c9, by rw [hln, HSO.out], by rw [hln]; exact hc10, by rw [hln, show i - 8 = 0 from HQ.out.symm]; exact hC10⟩, Grew.setRow HGW5.out (by rw [HHE.out]; exact Nat.le_refl _) _⟩
end Go.Proofs.Ytmifoihfpjomaaa.F

-- AudF
namespace Go.Proofs.Ytmifoihfpjomaaa.F
open Go Go.RowKit Go.Proofs.YtmifoihfpjomaaaW.PrintWords Go.Proofs.YtmifoihfpjomaaaW.PrintLast Go.Proofs.YtmifoihfpjomaaaW.PrintMore Go.Proofs.YtmifoihfpjomaaaM Go.Proofs.YtmifoihfpjomaaaR
attribute [local go_sem] max2_int min2_int max_two min_two
set_option linter.unusedSimpArgs false
set_option linter.unusedVariables false
set_option maxRecDepth 100000
end Go.Proofs.Ytmifoihfpjomaaa.F

-- AudR
namespace Go.Proofs.Ytmifoihfpjomaaa.F
open Go Go.RowKit Go.Proofs.YtmifoihfpjomaaaW.PrintWords Go.Proofs.YtmifoihfpjomaaaW.PrintLast Go.Proofs.YtmifoihfpjomaaaW.PrintMore Go.Proofs.YtmifoihfpjomaaaM Go.Proofs.YtmifoihfpjomaaaR
attribute [local go_sem] max2_int min2_int max_two min_two
set_option linter.unusedSimpArgs false
set_option linter.unusedVariables false
set_option maxRecDepth 100000
end Go.Proofs.Ytmifoihfpjomaaa.F

-- AudP
namespace Go.Proofs.Ytmifoihfpjomaaa.F
open Go Go.RowKit Go.Proofs.YtmifoihfpjomaaaW.PrintWords Go.Proofs.YtmifoihfpjomaaaW.PrintLast Go.Proofs.YtmifoihfpjomaaaW.PrintMore Go.Proofs.YtmifoihfpjomaaaM Go.Proofs.YtmifoihfpjomaaaR
set_option linter.unusedSimpArgs false
set_option linter.unusedVariables false
set_option maxRecDepth 100000
/-- what an audit becomes -/
structure Went (a : ByteArray) (last : Int) (l : List En) (e : En) (ra : ByteArray) (rl : List En) : Prop where
  may0 : mayP a last l = true
  good : goodP e = true
  seq : e.f0 = last + 1
  form : (l.length < 8 ∧ ra = a ∧ rl = l ++ [e]) ∨ ∃ x l', l = x :: l' ∧ l.length = 8 ∧ ra = strOfNums (sealL (bytesOf a) (bytesE x)) ∧ rl = l' ++ [e]
theorem Went.len {a : ByteArray} {last : Int} {l : List En} {e : En} {ra : ByteArray} {rl : List En} (h : Went a last l e ra rl) : (rl.length : Int) = min (last + 1) 8 := by
  have r := mayR h.may0
  have h0 := r.l0
  have h1 := r.len
  rcases h.form with ⟨h2, rfl, rfl⟩ | ⟨x, l', rfl, h2, rfl, rfl⟩
  · rw [List.length_append]; push_cast [List.length_singleton]; omega
  · rw [List.length_append]; simp only [List.length_cons] at h2 h1 ⊢; push_cast at h1 ⊢; simp; omega
end Go.Proofs.Ytmifoihfpjomaaa.F
