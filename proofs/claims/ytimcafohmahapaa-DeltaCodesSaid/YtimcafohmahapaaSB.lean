/- Texts of this seat laid together: F14, F10, F11, F68, F71, F62, F66, F65, ShaM, Own, Upd, F57, ShaP, F70, F63, F67, ShaT, ShaS, F52, F64, F58, ShaQ, Arr, ShaK. -/
import Derived.Test.YtimcafohmahapaaSA
import Derived.Laws.MathBits
import Derived.Lib.Mul64
import Derived.Lib.Hide
import Derived.Maps.AppendAt
import Derived.Laws.Externs
import Derived.Laws.Rows
import Derived.Laws.Tables
import Derived.Deep.MidRow

-- F14
namespace Go.Proofs.Ytimcafohmahapaa.F
open Go.RowKit Go.Proofs.YtimcafohmahapaaW.PrintWords Go.Proofs.YtimcafohmahapaaW.PrintLast Go.Proofs.YtimcafohmahapaaW.PrintMore
attribute [local go_sem] max2_int min2_int max_two min_two max_three min_three max_four min_four   -- for this text's walks alone
set_option linter.unusedVariables false
set_option linter.unusedSimpArgs false

/-! ### strongroomref11_May: function 14 -/
mutual
def strongroomref11_May.l0 : Nat → List (S43) → Int → Option (Bool)
  | 0, _, _ => none
  | k + 1, x0, x3 => if x3 < (x0.length : Int) then (if 0 ≤ x3 then (if (rd_T43 x0 x3).f0 = true then (if ((rd_T43 x0 x3).f1) < 0 then (strongroomref11_May.j1 k x0 x3 true ((rd_T43 x0 x3).f0) ((rd_T43 x0 x3).f1) ((rd_T43 x0 x3).f2)) else (strongroomref11_May.j1 k x0 x3 (((rd_T43 x0 x3).f2).toList != ([] : List UInt8)) ((rd_T43 x0 x3).f0) ((rd_T43 x0 x3).f1) ((rd_T43 x0 x3).f2))) else (strongroomref11_May.j1 k x0 x3 false ((rd_T43 x0 x3).f0) ((rd_T43 x0 x3).f1) ((rd_T43 x0 x3).f2))) else (none)) else (some true)
def strongroomref11_May.j1 : Nat → List (S43) → Int → Bool → Bool → Int → ByteArray → Option (Bool)
  | 0, _, _, _, _, _, _ => none
  | k + 1, x0, x3, x29, x176000, x176001, x176002 => if x29 = true then (some false) else (if x176000 = true then (strongroomref11_May.l0 k x0 (wrap64 (x3 + 1))) else (if x176001 = 0 then (if x176002.toList = ([] : List UInt8) then (some false) else (if x3 > 0 then (if 0 ≤ (wrap64 (x3 - 1)) then (if (wrap64 (x3 - 1)) < (x0.length : Int) then (if ((rd_T43 x0 (wrap64 (x3 - 1))).f0 = true) then (strongroomref11_May.l0 k x0 (wrap64 (x3 + 1))) else (some false)) else (none)) else (none)) else (strongroomref11_May.l0 k x0 (wrap64 (x3 + 1))))) else (some false)))
end
def strongroomref11_May.f (k : Nat) (l0 : List (S43)) : Option (Bool) := if (l0.length : Int) > 1024 then (some false) else (strongroomref11_May.l0 k l0 0)
set_option maxHeartbeats 8000000 in
set_option maxRecDepth 100000 in
theorem strongroomref11_May.calls (k : Nat) (A0 : Option Addr) (c0 : Nat) (l0 : List (S43)) (r : Bool) (w : World) (hr0 : Kd.C k43 w A0 l0.length l0) (hc0 : l0.length ≤ c0) (h : strongroomref11_May.f k l0 = some r) :
    Calls Try.prog 14 #[.slice A0 l0.length c0] w fun e w' => e = .returned (.bool r) ∧ Below w.heap.size w w' := by
  have hu43 := Try.underlying43
  have HR0 := Aside0.mk hr0
  have HC0 := Aside0.mk hc0
  clear hr0 hc0
  have HB := Aside0.mk (Below.refl w.heap.size w)
  have H : (if (l0.length : Int) > 1024 then (some false) else (strongroomref11_May.l0 k l0 0)) = some r := h
  clear h
  by_cases c2 : (l0.length : Int) > 1024
  · rw [if_pos c2] at H
    have c2b0 : decide (1024 < (l0.length : Int)) = true := decide_eq_true c2
    have c2b1 : decide (1024 < l0.length) = true := decide_eq_true (by omega)
    clear c2
    obtain rfl := Option.some.inj H
    go_enter Try.func14, Try.ntmps14
    go_wp2
    go_ret
    exact ⟨by first | rfl | (simp [errW_none, errW_some] <;> rfl) | (simp [*, errW_none, errW_some] <;> rfl), by repeat (first | (with_reducible first | exact HB.out | apply below_alloc | apply pw_below_drewN | apply below_drew1) | exact HB.out)⟩
  · rw [if_neg c2] at H
    have c2b0 : decide (1024 < (l0.length : Int)) = false := decide_eq_false c2
    have c2b1 : decide (1024 < l0.length) = false := decide_eq_false (by omega)
    clear c2
    have H' := Aside0.mk H
    clear H
    go_enter Try.func14, Try.ntmps14
    go_wp2
    go_loopg [3] k (fun kq v3 w' => ∃ (x3_1 : Int), v3 = .int .i64 x3_1 ∧ Aside0 (strongroomref11_May.l0 kq l0 x3_1 = some r) ∧ Aside0 (kq ≤ k) ∧ Aside0 (Below w.heap.size w w'))
    case atStart => exact ⟨(0), (by first | rfl | (simp; done) | (simp [*]; done)), H', ⟨Nat.le_refl _⟩, ⟨by repeat (first | (with_reducible first | exact HB.out | apply below_alloc | apply pw_below_drewN | apply below_drew1) | exact HB.out)⟩⟩
    case round =>
      clear H'
      try clear c1
      try clear c2
      try clear c2b0
      try clear c2b1
      try clear p2
      obtain ⟨x3_1, rfl, HA, HK1, HB⟩ := hrel
      cases gk with
      | zero => exact absurd HA.out (by simp [strongroomref11_May.l0])
      | succ k1 =>
        have H := HA.out
        clear HA
        simp only [strongroomref11_May.l0] at H
        by_cases c3 : x3_1 < (l0.length : Int)
        · rw [if_pos c3] at H
          have c3b0 : decide (x3_1 < (l0.length : Int)) = true := decide_eq_true c3
          clear c3
          by_cases c4 : 0 ≤ x3_1
          · rw [if_pos c4] at H
            have c4b0 : decide (0 ≤ x3_1) = true := decide_eq_true c4
            clear c4
            have HC5 := Aside0.mk H
            clear H
            have p174 : 0 ≤ (x3_1 : Int) := of_decide_eq_true (by first | (with_reducible assumption) | assumption)
            have q174 : x3_1 < (l0.length : Int) := of_decide_eq_true (by first | (with_reducible assumption) | assumption)
            obtain ⟨ad174, e174, hx174_0, hx174_1, hx174_2⟩ := at_T43 HR0.out x3_1 p174 q174
            cases e174
            replace hx174_0 := (HB.out.cell (World.block_lt_of_cell? w _ hx174_0)).trans hx174_0
            replace hx174_1 := (HB.out.cell (World.block_lt_of_cell? w _ hx174_1)).trans hx174_1
            replace hx174_2 := (HB.out.cell (World.block_lt_of_cell? w _ hx174_2)).trans hx174_2
            replace p174 := eq_true p174
            replace q174 := eq_true q174
            go_upto_region 7 with (first | ((with_reducible refine gate_dst (N := 4) rfl ?_); refine box_event ?hg (N := 4) ?hd (cs := #[.bool false, .int .i64 0, .string (⟨#[]⟩ : ByteArray)]) (t := 43) ?hr ?_; (case hd => rfl); (case hg => rfl); (case hr => first | (go_simp; done) | (go_simp; rfl)); intro gb175 hg w6 hbox hb; have n0_ := Aside0.mk (below_step (by repeat (first | (with_reducible first | exact HB.out | apply below_alloc | apply pw_below_drewN | apply below_drew1) | exact HB.out)) hb); have n1_ := Aside0.mk (hbox); have n2_ := Aside0.mk ((by rw [hg]; exact (below_size (by repeat (first | (with_reducible first | exact HB.out | apply below_alloc | apply pw_below_drewN | apply below_drew1) | exact HB.out))) : w.heap.size ≤ gb175)); have n3_ := Aside0.mk ((by rw [hg]; exact (below_size (by repeat (first | (with_reducible first | exact HB.out | apply below_alloc | apply pw_below_drewN | apply below_drew1) | exact HB.out))) : w.heap.size ≤ gb175)); clear HB; have HB := n0_; have BK175 := n1_; have GW175 := n2_; have GE175 := n3_; clear n0_ n1_ n2_ n3_; clear hb hbox hg; have hcz7_0 : w6.cell? ⟨gb175, 0, none⟩ = some (.bool false) := (blk_cell BK175.out 0).trans rfl; have hcz7_1 : w6.cell? ⟨gb175, 1, none⟩ = some (.int .i64 0) := (blk_cell BK175.out 1).trans rfl; have hcz7_2 : w6.cell? ⟨gb175, 2, none⟩ = some (.string (⟨#[]⟩ : ByteArray)) := (blk_cell BK175.out 2).trans rfl; have hfz7_0 := blk_frozen BK175.out 0; have hfz7_1 := blk_frozen BK175.out 1; have hfz7_2 := blk_frozen BK175.out 2))
            (try simp only [Act.put, List.setIfInBounds_toArray, List.set_cons_zero, List.set_cons_succ])
            go_cut [29] (fun v29 wc => ∃ (kq : Nat) (x29_4 : Bool), v29 = .bool x29_4 ∧ Aside0 (strongroomref11_May.j1 kq l0 x3_1 x29_4 ((rd_T43 l0 x3_1).f0) ((rd_T43 l0 x3_1).f1) ((rd_T43 l0 x3_1).f2) = some r) ∧ Aside0 (kq ≤ k1) ∧ Aside0 (wc.heap[gb175]? = some (.cells #[.bool ((rd_T43 l0 x3_1).f0), .int .i64 ((rd_T43 l0 x3_1).f1), .string ((rd_T43 l0 x3_1).f2)] 43 (0, 0))) ∧ Aside0 (Below w.heap.size w wc))
            case first =>
              have H := HC5.out
              clear HC5
              obtain ⟨bq8, hbq8⟩ : ∃ b_ : Bool, b_ = ((rd_T43 l0 x3_1).f0) := ⟨_, rfl⟩
              replace H : (if bq8 = true then (if ((rd_T43 l0 x3_1).f1) < 0 then (strongroomref11_May.j1 k1 l0 x3_1 true bq8 ((rd_T43 l0 x3_1).f1) ((rd_T43 l0 x3_1).f2)) else (strongroomref11_May.j1 k1 l0 x3_1 (((rd_T43 l0 x3_1).f2).toList != ([] : List UInt8)) bq8 ((rd_T43 l0 x3_1).f1) ((rd_T43 l0 x3_1).f2))) else (strongroomref11_May.j1 k1 l0 x3_1 false bq8 ((rd_T43 l0 x3_1).f1) ((rd_T43 l0 x3_1).f2))) = some r := by rw [← hbq8] at H; exact H
              have Nbq8 := Aside0.mk hbq8
              clear hbq8
              (try rw [← Nbq8.out])
              by_cases c9 : bq8 = true
              · subst c9
                have H1 : (if ((rd_T43 l0 x3_1).f1) < 0 then (strongroomref11_May.j1 k1 l0 x3_1 true true ((rd_T43 l0 x3_1).f1) ((rd_T43 l0 x3_1).f2)) else (strongroomref11_May.j1 k1 l0 x3_1 (((rd_T43 l0 x3_1).f2).toList != ([] : List UInt8)) true ((rd_T43 l0 x3_1).f1) ((rd_T43 l0 x3_1).f2))) = some r := by rw [if_pos rfl] at H; exact H
                clear H
                have H := H1
                clear H1
                by_cases c10 : ((rd_T43 l0 x3_1).f1) < 0
                · rw [if_pos c10] at H
                  have c10b0 : decide (((rd_T43 l0 x3_1).f1) < 0) = true := decide_eq_true c10
                  clear c10
                  have H' := Aside0.mk H
                  clear H
                  have hcz11_0 : w6.cell? ⟨gb175, 0, none⟩ = some (.bool false) := (blk_cell BK175.out 0).trans rfl
                  have hcz11_1 : w6.cell? ⟨gb175, 1, none⟩ = some (.int .i64 0) := (blk_cell BK175.out 1).trans rfl
                  have hcz11_2 : w6.cell? ⟨gb175, 2, none⟩ = some (.string (⟨#[]⟩ : ByteArray)) := (blk_cell BK175.out 2).trans rfl
                  have hfz11_0 := blk_frozen BK175.out 0
                  have hfz11_1 := blk_frozen BK175.out 1
                  have hfz11_2 := blk_frozen BK175.out 2
                  go_wp2
                  go_meet
                  case rel => (try rw [← Nbq8.out]); exact ⟨_, (true), (by first | rfl | (simp; done) | (simp [*]; done)), H', ⟨by have := HK1.out; first | omega | exact Nat.le_refl _⟩, ⟨by (with_reducible repeat (first | refine blk_drewN ?_ _ | refine blk_drew ?_ | refine blk_alloc ?_ _)); refine blk_put (cs := #[.bool (true), .int .i64 ((rd_T43 l0 x3_1).f1), .string (⟨#[]⟩ : ByteArray)]) ?_ 2 _ rfl; (with_reducible repeat (first | refine blk_drewN ?_ _ | refine blk_drew ?_ | refine blk_alloc ?_ _)); refine blk_put (cs := #[.bool (true), .int .i64 0, .string (⟨#[]⟩ : ByteArray)]) ?_ 1 _ rfl; (with_reducible repeat (first | refine blk_drewN ?_ _ | refine blk_drew ?_ | refine blk_alloc ?_ _)); refine blk_put (cs := #[.bool false, .int .i64 0, .string (⟨#[]⟩ : ByteArray)]) ?_ 0 _ rfl; (with_reducible repeat (first | refine blk_drewN ?_ _ | refine blk_drew ?_ | refine blk_alloc ?_ _)); exact BK175.out⟩, ⟨by repeat (first | (with_reducible first | exact HB.out | apply below_alloc | apply pw_below_drewN | apply below_drew1 | refine below_set ?_ GE175.out) | exact HB.out)⟩⟩
                · rw [if_neg c10] at H
                  have c10b0 : decide (((rd_T43 l0 x3_1).f1) < 0) = false := decide_eq_false c10
                  clear c10
                  have H' := Aside0.mk H
                  clear H
                  have hcz12_0 : w6.cell? ⟨gb175, 0, none⟩ = some (.bool false) := (blk_cell BK175.out 0).trans rfl
                  have hcz12_1 : w6.cell? ⟨gb175, 1, none⟩ = some (.int .i64 0) := (blk_cell BK175.out 1).trans rfl
                  have hcz12_2 : w6.cell? ⟨gb175, 2, none⟩ = some (.string (⟨#[]⟩ : ByteArray)) := (blk_cell BK175.out 2).trans rfl
                  have hfz12_0 := blk_frozen BK175.out 0
                  have hfz12_1 := blk_frozen BK175.out 1
                  have hfz12_2 := blk_frozen BK175.out 2
                  go_wp2
                  go_meet
                  case rel => (try rw [← Nbq8.out]); exact ⟨_, ((((rd_T43 l0 x3_1).f2).toList != ([] : List UInt8))), (by first | rfl | (simp; done) | (simp [*]; done) | (simp [*]; cases (rd_T43 l0 x3_1).f2.toList <;> rfl)), H', ⟨by have := HK1.out; first | omega | exact Nat.le_refl _⟩, ⟨by (with_reducible repeat (first | refine blk_drewN ?_ _ | refine blk_drew ?_ | refine blk_alloc ?_ _)); refine blk_put (cs := #[.bool (true), .int .i64 ((rd_T43 l0 x3_1).f1), .string (⟨#[]⟩ : ByteArray)]) ?_ 2 _ rfl; (with_reducible repeat (first | refine blk_drewN ?_ _ | refine blk_drew ?_ | refine blk_alloc ?_ _)); refine blk_put (cs := #[.bool (true), .int .i64 0, .string (⟨#[]⟩ : ByteArray)]) ?_ 1 _ rfl; (with_reducible repeat (first | refine blk_drewN ?_ _ | refine blk_drew ?_ | refine blk_alloc ?_ _)); refine blk_put (cs := #[.bool false, .int .i64 0, .string (⟨#[]⟩ : ByteArray)]) ?_ 0 _ rfl; (with_reducible repeat (first | refine blk_drewN ?_ _ | refine blk_drew ?_ | refine blk_alloc ?_ _)); exact BK175.out⟩, ⟨by repeat (first | (with_reducible first | exact HB.out | apply below_alloc | apply pw_below_drewN | apply below_drew1 | refine below_set ?_ GE175.out) | exact HB.out)⟩⟩
              · replace c9 := Bool.eq_false_iff.mpr c9
                subst c9
                have H1 : (strongroomref11_May.j1 k1 l0 x3_1 false false ((rd_T43 l0 x3_1).f1) ((rd_T43 l0 x3_1).f2)) = some r := by rw [if_neg (show ¬ (false = true) by decide)] at H; exact H
                clear H
                have H := H1
                clear H1
                have H' := Aside0.mk H
                clear H
                have hcz13_0 : w6.cell? ⟨gb175, 0, none⟩ = some (.bool false) := (blk_cell BK175.out 0).trans rfl
                have hcz13_1 : w6.cell? ⟨gb175, 1, none⟩ = some (.int .i64 0) := (blk_cell BK175.out 1).trans rfl
                have hcz13_2 : w6.cell? ⟨gb175, 2, none⟩ = some (.string (⟨#[]⟩ : ByteArray)) := (blk_cell BK175.out 2).trans rfl
                have hfz13_0 := blk_frozen BK175.out 0
                have hfz13_1 := blk_frozen BK175.out 1
                have hfz13_2 := blk_frozen BK175.out 2
                go_wp2
                go_meet
                case rel => (try rw [← Nbq8.out]); exact ⟨_, (false), (by first | rfl | (simp; done) | (simp [*]; done)), H', ⟨by have := HK1.out; first | omega | exact Nat.le_refl _⟩, ⟨by (with_reducible repeat (first | refine blk_drewN ?_ _ | refine blk_drew ?_ | refine blk_alloc ?_ _)); refine blk_put (cs := #[.bool (false), .int .i64 ((rd_T43 l0 x3_1).f1), .string (⟨#[]⟩ : ByteArray)]) ?_ 2 _ rfl; (with_reducible repeat (first | refine blk_drewN ?_ _ | refine blk_drew ?_ | refine blk_alloc ?_ _)); refine blk_put (cs := #[.bool (false), .int .i64 0, .string (⟨#[]⟩ : ByteArray)]) ?_ 1 _ rfl; (with_reducible repeat (first | refine blk_drewN ?_ _ | refine blk_drew ?_ | refine blk_alloc ?_ _)); refine blk_put (cs := #[.bool false, .int .i64 0, .string (⟨#[]⟩ : ByteArray)]) ?_ 0 _ rfl; (with_reducible repeat (first | refine blk_drewN ?_ _ | refine blk_drew ?_ | refine blk_alloc ?_ _)); exact BK175.out⟩, ⟨by repeat (first | (with_reducible first | exact HB.out | apply below_alloc | apply pw_below_drewN | apply below_drew1 | refine below_set ?_ GE175.out) | exact HB.out)⟩⟩
            case rest =>
              clear HC5
              try clear c1
              try clear p1
              try clear q1
              try clear hx1
              try clear c2
              try clear c2b0
              try clear c2b1
              try clear p2
              try clear c3
              try clear c3b0
              try clear c4
              try clear c4b0
              try clear q8
              try clear c9
              try clear c10
              try clear c10b0
              try clear hcz11_0
              try clear hcz11_1
              try clear hcz11_2
              try clear hcz12_0
              try clear hcz12_1
              try clear hcz12_2
              try clear hcz13_0
              try clear hcz13_1
              try clear hcz13_2
              try clear hcz7_0
              try clear hcz7_1
              try clear hcz7_2
              try clear hfz11_0
              try clear hfz11_1
              try clear hfz11_2
              try clear hfz12_0
              try clear hfz12_1
              try clear hfz12_2
              try clear hfz13_0
              try clear hfz13_1
              try clear hfz13_2
              try clear hfz7_0
              try clear hfz7_1
              try clear hfz7_2
              try clear hx174_0
              try clear hx174_1
              try clear hx174_2
              try clear p174
              try clear p2
              try clear q174
              obtain ⟨kq, x29_4, rfl, HA, HJ4, BK175, HB⟩ := hcut
              cases kq with
              | zero => exact absurd HA.out (by simp [strongroomref11_May.j1])
              | succ kj4 =>
                have H := HA.out
                clear HA
                simp only [strongroomref11_May.j1] at H
                by_cases c14 : x29_4 = true
                · subst c14
                  have H1 : (some false) = some r := by rw [if_pos rfl] at H; exact H
                  clear H
                  have H := H1
                  clear H1
                  obtain rfl := Option.some.inj H
                  go_wp2
                  go_ret
                  exact ⟨by first | rfl | (simp [errW_none, errW_some] <;> rfl) | (simp [*, errW_none, errW_some] <;> rfl), by repeat (first | (with_reducible first | exact HB.out | apply below_alloc | apply pw_below_drewN | apply below_drew1 | refine below_set ?_ GE175.out) | exact HB.out)⟩
                · replace c14 := Bool.eq_false_iff.mpr c14
                  subst c14
                  have H1 : (if ((rd_T43 l0 x3_1).f0) = true then (strongroomref11_May.l0 kj4 l0 (wrap64 (x3_1 + 1))) else (if ((rd_T43 l0 x3_1).f1) = 0 then (if ((rd_T43 l0 x3_1).f2).toList = ([] : List UInt8) then (some false) else (if x3_1 > 0 then (if 0 ≤ (wrap64 (x3_1 - 1)) then (if (wrap64 (x3_1 - 1)) < (l0.length : Int) then (if ((rd_T43 l0 (wrap64 (x3_1 - 1))).f0 = true) then (strongroomref11_May.l0 kj4 l0 (wrap64 (x3_1 + 1))) else (some false)) else (none)) else (none)) else (strongroomref11_May.l0 kj4 l0 (wrap64 (x3_1 + 1))))) else (some false))) = some r := by rw [if_neg (show ¬ (false = true) by decide)] at H; exact H
                  clear H
                  have H := H1
                  clear H1
                  by_cases c15 : ((rd_T43 l0 x3_1).f0) = true
                  · rw [if_pos c15] at H
                    have c15b0 : ((rd_T43 l0 x3_1).f0) = true := c15
                    clear c15
                    have H' := Aside0.mk H
                    clear H
                    have hcz16_0 : wc.cell? ⟨gb175, 0, none⟩ = some (.bool ((rd_T43 l0 x3_1).f0)) := (blk_cell BK175.out 0).trans rfl
                    have hcz16_1 : wc.cell? ⟨gb175, 1, none⟩ = some (.int .i64 ((rd_T43 l0 x3_1).f1)) := (blk_cell BK175.out 1).trans rfl
                    have hcz16_2 : wc.cell? ⟨gb175, 2, none⟩ = some (.string ((rd_T43 l0 x3_1).f2)) := (blk_cell BK175.out 2).trans rfl
                    have hfz16_0 := blk_frozen BK175.out 0
                    have hfz16_1 := blk_frozen BK175.out 1
                    have hfz16_2 := blk_frozen BK175.out 2
                    go_wp2
                    go_roundg kj4
                    case measure => have := HK1.out; have := HJ4.out; omega
                    case rel => exact ⟨(wrap64 (x3_1 + 1)), (by first | rfl | (simp; done) | (simp [*]; done)), H', ⟨by have := HK1.out; have := HJ4.out; omega⟩, ⟨by repeat (first | (with_reducible first | exact HB.out | apply below_alloc | apply pw_below_drewN | apply below_drew1 | refine below_set ?_ GE175.out) | exact HB.out)⟩⟩
                  · rw [if_neg c15] at H
                    have c15b0 : ((rd_T43 l0 x3_1).f0) = false := by simpa using c15
                    clear c15
                    by_cases c17 : ((rd_T43 l0 x3_1).f1) = 0
                    · rw [if_pos c17] at H
                      have c17b0 : (((rd_T43 l0 x3_1).f1) == 0) = true := beq_iff_eq.mpr c17
                      have c17b1 : (((rd_T43 l0 x3_1).f1) != 0) = false := bne_eq_false_iff_eq.mpr c17
                      clear c17
                      by_cases c18 : ((rd_T43 l0 x3_1).f2).toList = ([] : List UInt8)
                      · rw [if_pos c18] at H
                        have c18b0 : (((rd_T43 l0 x3_1).f2).toList == ([] : List UInt8)) = true := beq_iff_eq.mpr c18
                        have c18b1 : (((rd_T43 l0 x3_1).f2).toList != ([] : List UInt8)) = false := bne_eq_false_iff_eq.mpr c18
                        clear c18
                        obtain rfl := Option.some.inj H
                        have hcz19_0 : wc.cell? ⟨gb175, 0, none⟩ = some (.bool ((rd_T43 l0 x3_1).f0)) := (blk_cell BK175.out 0).trans rfl
                        have hcz19_1 : wc.cell? ⟨gb175, 1, none⟩ = some (.int .i64 ((rd_T43 l0 x3_1).f1)) := (blk_cell BK175.out 1).trans rfl
                        have hcz19_2 : wc.cell? ⟨gb175, 2, none⟩ = some (.string ((rd_T43 l0 x3_1).f2)) := (blk_cell BK175.out 2).trans rfl
                        have hfz19_0 := blk_frozen BK175.out 0
                        have hfz19_1 := blk_frozen BK175.out 1
                        have hfz19_2 := blk_frozen BK175.out 2
                        go_wp2
                        go_ret
                        exact ⟨by first | rfl | (simp [errW_none, errW_some] <;> rfl) | (simp [*, errW_none, errW_some] <;> rfl), by repeat (first | (with_reducible first | exact HB.out | apply below_alloc | apply pw_below_drewN | apply below_drew1 | refine below_set ?_ GE175.out) | exact HB.out)⟩
                      · rw [if_neg c18] at H
                        have c18b0 : (((rd_T43 l0 x3_1).f2).toList == ([] : List UInt8)) = false := beq_eq_false_iff_ne.mpr c18
                        have c18b1 : (((rd_T43 l0 x3_1).f2).toList != ([] : List UInt8)) = true := bne_iff_ne.mpr c18
                        by_cases c20 : x3_1 > 0
                        · rw [if_pos c20] at H
                          have c20b0 : decide (0 < x3_1) = true := decide_eq_true c20
                          clear c20
                          obtain ⟨ji21, hji21⟩ : ∃ j_ : Int, (wrap64 (x3_1 - 1)) = j_ := ⟨_, rfl⟩
                          replace H : (if 0 ≤ (ji21) then (if (ji21) < (l0.length : Int) then (if ((rd_T43 l0 (ji21)).f0 = true) then (strongroomref11_May.l0 kj4 l0 (wrap64 (x3_1 + 1))) else (some false)) else (none)) else (none)) = some r := by first | (rw [hji21] at H; exact H) | (simp only [hji21] at H ⊢; exact H)
                          have hji21w : (IntKind.i64.wrap (x3_1 - 1)) = ji21 := (i64_w _).trans hji21
                          by_cases c22 : 0 ≤ (ji21)
                          · rw [if_pos c22] at H
                            have c22b0 : decide (0 ≤ (ji21)) = true := decide_eq_true c22
                            clear c22
                            by_cases c23 : (ji21) < (l0.length : Int)
                            · rw [if_pos c23] at H
                              have c23b0 : decide ((ji21) < (l0.length : Int)) = true := decide_eq_true c23
                              clear c23
                              obtain ⟨bq24, hbq24⟩ : ∃ b_ : Bool, b_ = ((rd_T43 l0 (ji21)).f0) := ⟨_, rfl⟩
                              replace H : (if (bq24 = true) then (strongroomref11_May.l0 kj4 l0 (wrap64 (x3_1 + 1))) else (some false)) = some r := by rw [← hbq24] at H; exact H
                              have Nbq24 := Aside0.mk hbq24
                              clear hbq24
                              by_cases c25 : (bq24 = true)
                              · subst c25
                                have H1 : (strongroomref11_May.l0 kj4 l0 (wrap64 (x3_1 + 1))) = some r := by rw [if_pos rfl] at H; exact H
                                clear H
                                have H := H1
                                clear H1
                                have H' := Aside0.mk H
                                clear H
                                have hcz26_0 : wc.cell? ⟨gb175, 0, none⟩ = some (.bool ((rd_T43 l0 x3_1).f0)) := (blk_cell BK175.out 0).trans rfl
                                have hcz26_1 : wc.cell? ⟨gb175, 1, none⟩ = some (.int .i64 ((rd_T43 l0 x3_1).f1)) := (blk_cell BK175.out 1).trans rfl
                                have hcz26_2 : wc.cell? ⟨gb175, 2, none⟩ = some (.string ((rd_T43 l0 x3_1).f2)) := (blk_cell BK175.out 2).trans rfl
                                have hfz26_0 := blk_frozen BK175.out 0
                                have hfz26_1 := blk_frozen BK175.out 1
                                have hfz26_2 := blk_frozen BK175.out 2
                                have p176 : 0 ≤ ((ji21) : Int) := of_decide_eq_true (by first | (with_reducible assumption) | assumption)
                                have q176 : (ji21) < (l0.length : Int) := of_decide_eq_true (by first | (with_reducible assumption) | assumption)
                                obtain ⟨ad176, e176, hx176_0, hx176_1, hx176_2⟩ := at_T43 HR0.out (ji21) p176 q176
                                (try rw [← Nbq24.out] at hx176_0)
                                obtain rfl : ad174 = ad176 := (by injection e176)
                                replace hx176_0 := (HB.out.cell (World.block_lt_of_cell? w _ hx176_0)).trans hx176_0
                                replace hx176_1 := (HB.out.cell (World.block_lt_of_cell? w _ hx176_1)).trans hx176_1
                                replace hx176_2 := (HB.out.cell (World.block_lt_of_cell? w _ hx176_2)).trans hx176_2
                                replace p176 := eq_true p176
                                replace q176 := eq_true q176
                                go_wp2
                                go_roundg kj4
                                case measure => have := HK1.out; have := HJ4.out; omega
                                case rel => exact ⟨(wrap64 (x3_1 + 1)), (by first | rfl | (simp; done) | (simp [*]; done)), H', ⟨by have := HK1.out; have := HJ4.out; omega⟩, ⟨by repeat (first | (with_reducible first | exact HB.out | apply below_alloc | apply pw_below_drewN | apply below_drew1 | refine below_set ?_ GE175.out) | exact HB.out)⟩⟩
                              · replace c25 := Bool.eq_false_iff.mpr c25
                                subst c25
                                have H1 : (some false) = some r := by rw [if_neg (show ¬ (false = true) by decide)] at H; exact H
                                clear H
                                have H := H1
                                clear H1
                                obtain rfl := Option.some.inj H
                                have hcz27_0 : wc.cell? ⟨gb175, 0, none⟩ = some (.bool ((rd_T43 l0 x3_1).f0)) := (blk_cell BK175.out 0).trans rfl
                                have hcz27_1 : wc.cell? ⟨gb175, 1, none⟩ = some (.int .i64 ((rd_T43 l0 x3_1).f1)) := (blk_cell BK175.out 1).trans rfl
                                have hcz27_2 : wc.cell? ⟨gb175, 2, none⟩ = some (.string ((rd_T43 l0 x3_1).f2)) := (blk_cell BK175.out 2).trans rfl
                                have hfz27_0 := blk_frozen BK175.out 0
                                have hfz27_1 := blk_frozen BK175.out 1
                                have hfz27_2 := blk_frozen BK175.out 2
                                have p176 : 0 ≤ ((ji21) : Int) := of_decide_eq_true (by first | (with_reducible assumption) | assumption)
                                have q176 : (ji21) < (l0.length : Int) := of_decide_eq_true (by first | (with_reducible assumption) | assumption)
                                obtain ⟨ad176, e176, hx176_0, hx176_1, hx176_2⟩ := at_T43 HR0.out (ji21) p176 q176
                                (try rw [← Nbq24.out] at hx176_0)
                                obtain rfl : ad174 = ad176 := (by injection e176)
                                replace hx176_0 := (HB.out.cell (World.block_lt_of_cell? w _ hx176_0)).trans hx176_0
                                replace hx176_1 := (HB.out.cell (World.block_lt_of_cell? w _ hx176_1)).trans hx176_1
                                replace hx176_2 := (HB.out.cell (World.block_lt_of_cell? w _ hx176_2)).trans hx176_2
                                replace p176 := eq_true p176
                                replace q176 := eq_true q176
                                go_wp2
                                go_ret
                                exact ⟨by first | rfl | (simp [errW_none, errW_some] <;> rfl) | (simp only [← hji21]; first | rfl | (simp [errW_none, errW_some] <;> rfl)) | (simp [*, errW_none, errW_some] <;> rfl), by repeat (first | (with_reducible first | exact HB.out | apply below_alloc | apply pw_below_drewN | apply below_drew1 | refine below_set ?_ GE175.out) | exact HB.out)⟩
                            · rw [if_neg c23] at H
                              exact absurd H (by simp)
                          · rw [if_neg c22] at H
                            exact absurd H (by simp)
                        · rw [if_neg c20] at H
                          have c20b0 : decide (0 < x3_1) = false := decide_eq_false c20
                          clear c20
                          have H' := Aside0.mk H
                          clear H
                          have hcz28_0 : wc.cell? ⟨gb175, 0, none⟩ = some (.bool ((rd_T43 l0 x3_1).f0)) := (blk_cell BK175.out 0).trans rfl
                          have hcz28_1 : wc.cell? ⟨gb175, 1, none⟩ = some (.int .i64 ((rd_T43 l0 x3_1).f1)) := (blk_cell BK175.out 1).trans rfl
                          have hcz28_2 : wc.cell? ⟨gb175, 2, none⟩ = some (.string ((rd_T43 l0 x3_1).f2)) := (blk_cell BK175.out 2).trans rfl
                          have hfz28_0 := blk_frozen BK175.out 0
                          have hfz28_1 := blk_frozen BK175.out 1
                          have hfz28_2 := blk_frozen BK175.out 2
                          go_wp2
                          go_roundg kj4
                          case measure => have := HK1.out; have := HJ4.out; omega
                          case rel => exact ⟨(wrap64 (x3_1 + 1)), (by first | rfl | (simp; done) | (simp [*]; done)), H', ⟨by have := HK1.out; have := HJ4.out; omega⟩, ⟨by repeat (first | (with_reducible first | exact HB.out | apply below_alloc | apply pw_below_drewN | apply below_drew1 | refine below_set ?_ GE175.out) | exact HB.out)⟩⟩
                    · rw [if_neg c17] at H
                      have c17b0 : (((rd_T43 l0 x3_1).f1) == 0) = false := beq_eq_false_iff_ne.mpr c17
                      have c17b1 : (((rd_T43 l0 x3_1).f1) != 0) = true := bne_iff_ne.mpr c17
                      obtain rfl := Option.some.inj H
                      have hcz29_0 : wc.cell? ⟨gb175, 0, none⟩ = some (.bool ((rd_T43 l0 x3_1).f0)) := (blk_cell BK175.out 0).trans rfl
                      have hcz29_1 : wc.cell? ⟨gb175, 1, none⟩ = some (.int .i64 ((rd_T43 l0 x3_1).f1)) := (blk_cell BK175.out 1).trans rfl
                      have hcz29_2 : wc.cell? ⟨gb175, 2, none⟩ = some (.string ((rd_T43 l0 x3_1).f2)) := (blk_cell BK175.out 2).trans rfl
                      have hfz29_0 := blk_frozen BK175.out 0
                      have hfz29_1 := blk_frozen BK175.out 1
                      have hfz29_2 := blk_frozen BK175.out 2
                      go_wp2
                      go_ret
                      exact ⟨by first | rfl | (simp [errW_none, errW_some] <;> rfl) | (simp [*, errW_none, errW_some] <;> rfl), by repeat (first | (with_reducible first | exact HB.out | apply below_alloc | apply pw_below_drewN | apply below_drew1 | refine below_set ?_ GE175.out) | exact HB.out)⟩
          · rw [if_neg c4] at H
            exact absurd H (by simp)
        · rw [if_neg c3] at H
          have c3b0 : decide (x3_1 < (l0.length : Int)) = false := decide_eq_false c3
          clear c3
          obtain rfl := Option.some.inj H
          go_wp2
          go_ret
          exact ⟨by first | rfl | (simp [errW_none, errW_some] <;> rfl) | (simp [*, errW_none, errW_some] <;> rfl), by repeat (first | (with_reducible first | exact HB.out | apply below_alloc | apply pw_below_drewN | apply below_drew1) | exact HB.out)⟩

end Go.Proofs.Ytimcafohmahapaa.F

-- F10
namespace Go.Proofs.Ytimcafohmahapaa.F
open Go.RowKit Go.Proofs.YtimcafohmahapaaW.PrintWords Go.Proofs.YtimcafohmahapaaW.PrintLast Go.Proofs.YtimcafohmahapaaW.PrintMore
attribute [local go_sem] max2_int min2_int max_two min_two max_three min_three max_four min_four   -- for this text's walks alone
set_option linter.unusedVariables false
set_option linter.unusedSimpArgs false

/-! ### delta_Decode: function 10 -/
mutual
def delta_Decode.j0 : Nat → List Int → Int → Int → Bool → Option ((List (S43)) × Int)
  | 0, _, _, _, _ => none
  | k + 1, x0, x4, x5, x26 => if x26 = true then (some (([] : List (S43)), 4)) else (delta_Decode.l0 k x0 x5 ([] : List (S43)) x4 0)
def delta_Decode.l0 : Nat → List Int → Int → List (S43) → Int → Int → Option ((List (S43)) × Int)
  | 0, _, _, _, _, _ => none
  | k + 1, x0, x5, x7, x27, x28 => if x28 < x27 then ((num_Get.f k x0 x5).bind fun bt164 => (if bt164.2.2 = 0 then (if (Go.bits .and .u64 bt164.1 1) = 1 then (if x7.length < 4398046511104 then (delta_Decode.l0 k x0 bt164.2.1 (x7 ++ [(⟨true, wrap64 (bt164.1 / 2), (⟨#[]⟩ : ByteArray)⟩ : S43)]) x27 (IntKind.u64.wrap (x28 + 1))) else (none)) else (if (bt164.1 / 2) > (IntKind.u64.wrap (wrap64 ((x0.length : Int) - bt164.2.1))) then (some (([] : List (S43)), 4)) else (if 0 ≤ bt164.2.1 then (if bt164.2.1 ≤ (wrap64 (bt164.2.1 + (wrap64 (bt164.1 / 2)))) then (if (wrap64 (bt164.2.1 + (wrap64 (bt164.1 / 2)))) ≤ (x0.length : Int) then (if x7.length < 4398046511104 then (delta_Decode.l0 k x0 (wrap64 (bt164.2.1 + (wrap64 (bt164.1 / 2)))) (x7 ++ [(⟨false, 0, strOfNums ((x0.take ((wrap64 (bt164.2.1 + (wrap64 (bt164.1 / 2)))) : Int).toNat).drop (bt164.2.1 : Int).toNat)⟩ : S43)]) x27 (IntKind.u64.wrap (x28 + 1))) else (none)) else (none)) else (none)) else (none)))) else (some (([] : List (S43)), 4)))) else (if x5 = (x0.length : Int) then ((delta_Check.f k x7).bind fun t163 => (if t163 = 0 then (some (x7, 0)) else (some (([] : List (S43)), 4)))) else (some (([] : List (S43)), 4)))
end
def delta_Decode.f (k : Nat) (l0 : List Int) : Option ((List (S43)) × Int) := if (l0.length : Int) > 65536 then (some (([] : List (S43)), 2)) else ((num_Get.f k l0 0).bind fun bt160 => (if bt160.2.2 = 0 then (delta_Decode.j0 k l0 bt160.1 bt160.2.1 (decide (bt160.1 > 1024))) else (delta_Decode.j0 k l0 bt160.1 bt160.2.1 true)))
set_option maxHeartbeats 8000000 in
set_option maxRecDepth 100000 in
theorem delta_Decode.calls (k : Nat) (A0 : Option Addr) (c0 : Nat) (l0 : List Int) (r1 : List (S43)) (r2 : Int) (w : World) (hr0 : Kd.C (Kd.int .u8) w A0 l0.length l0) (hc0 : l0.length ≤ c0) (h : delta_Decode.f k l0 = some (r1, r2)) :
    Calls Try.prog 10 #[.slice A0 l0.length c0] w fun e w' => ∃ v0_ : Value, e = .returned (.tuple #[v0_, .int .i64 r2]) ∧ Kd.R k43 43 w' w.heap.size (fun _ => True) v0_ r1 ∧ Below w.heap.size w w' := by
  have hu43 := Try.underlying43
  have HR0 := Aside0.mk hr0
  have HC0 := Aside0.mk hc0
  clear hr0 hc0
  have HB := Aside0.mk (Below.refl w.heap.size w)
  have H : (if (l0.length : Int) > 65536 then (some (([] : List (S43)), 2)) else ((num_Get.f k l0 0).bind fun bt160 => (if bt160.2.2 = 0 then (delta_Decode.j0 k l0 bt160.1 bt160.2.1 (decide (bt160.1 > 1024))) else (delta_Decode.j0 k l0 bt160.1 bt160.2.1 true)))) = some (r1, r2) := h
  clear h
  by_cases c2 : (l0.length : Int) > 65536
  · rw [if_pos c2] at H
    have c2b0 : decide (65536 < (l0.length : Int)) = true := decide_eq_true c2
    have c2b1 : decide (65536 < l0.length) = true := decide_eq_true (by omega)
    clear c2
    simp only [Option.some.injEq, Prod.mk.injEq] at H
    obtain ⟨rfl, rfl⟩ := H
    go_enter Try.func10, Try.ntmps10
    go_wp2
    go_ret2
    exact ⟨_, by first | rfl | (simp [errW_none, errW_some] <;> rfl) | (simp [*, errW_none, errW_some] <;> rfl), by first | exact Kd.R_nil _ _ _ _ _ | exact Kd.N_nil _ _ _ _ _ | exact Kd.V_nil _ _ _ _ _ | exact Kd.Q_nil _ _ _ _ _ | exact Kd.S_nil _ _ _ _ _, by repeat (first | (with_reducible first | exact HB.out | apply below_alloc | apply pw_below_drewN | apply below_drew1) | exact HB.out)⟩
  · rw [if_neg c2] at H
    have c2b0 : decide (65536 < (l0.length : Int)) = false := decide_eq_false c2
    have c2b1 : decide (65536 < l0.length) = false := decide_eq_false (by omega)
    clear c2
    replace H := Option.bind_eq_some_iff.mp H
    obtain ⟨⟨t160, t161, t162⟩, A30, H⟩ := H
    replace H : (if t162 = 0 then (delta_Decode.j0 k l0 t160 t161 (decide (t160 > 1024))) else (delta_Decode.j0 k l0 t160 t161 true)) = some (r1, r2) := H
    have A3 := Aside0.mk A30
    clear A30
    have HC4 := Aside0.mk H
    clear H
    go_enter Try.func10, Try.ntmps10
    go_upto_region 4 with (first | ((with_reducible refine gate_callee (f := 25) rfl ?_); refine goesL_ (some 17) rfl rfl Try.func25 (by kernel_rfl) rfl #[.slice A0 l0.length c0, .int .i64 0] rfl (by (try simp only [List.map_toArray, List.map_cons, List.map_nil]); first | done | rfl | (simp only [List.length_drop, List.length_take]; rfl)) ?_; (with_reducible refine (num_Get.calls k _ _ l0 0 t160 t161 t162 _ ?side1 ?side2 A3.out).mono ?_); (case side1 => repeat (first | exact HR0.out | (with_reducible refine Kd.C_alloc ?_ _) | (with_reducible refine Kd.C_drewN ?_ _) | (with_reducible refine Kd.C_drew ?_))); (case side2 => exact HC0.out); rintro e w' ⟨rfl, ⟨nd, rfl⟩⟩; refine ⟨_, rfl, ?_⟩))
    (try simp only [Act.put, List.setIfInBounds_toArray, List.set_cons_zero, List.set_cons_succ])
    go_cut [26] (fun v26 wc => ∃ (kq : Nat) (x26_3 : Bool), v26 = .bool x26_3 ∧ Aside0 (delta_Decode.j0 kq l0 t160 t161 x26_3 = some (r1, r2)) ∧ Aside0 (kq ≤ k) ∧ Aside0 (Below w.heap.size w wc))
    case first =>
      have H := HC4.out
      clear HC4
      by_cases c5 : t162 = 0
      · rw [if_pos c5] at H
        have c5b0 : (t162 == 0) = true := beq_iff_eq.mpr c5
        have c5b1 : (t162 != 0) = false := bne_eq_false_iff_eq.mpr c5
        clear c5
        (first | rw [c5b0] | (simp only [i64_w, i32_w]; rw [c5b0]) | skip)
        have H' := Aside0.mk H
        clear H
        go_wp2
        go_meet
        case rel => exact ⟨_, (decide (t160 > 1024)), (by first | rfl | (simp; done) | (simp [*]; done)), H', ⟨by first | omega | exact Nat.le_refl _⟩, ⟨by repeat (first | (with_reducible first | exact HB.out | apply below_alloc | apply pw_below_drewN | apply below_drew1) | exact HB.out)⟩⟩
      · rw [if_neg c5] at H
        have c5b0 : (t162 == 0) = false := beq_eq_false_iff_ne.mpr c5
        have c5b1 : (t162 != 0) = true := bne_iff_ne.mpr c5
        (first | rw [c5b0] | (simp only [i64_w, i32_w]; rw [c5b0]) | skip)
        have H' := Aside0.mk H
        clear H
        go_wp2
        go_meet
        case rel => exact ⟨_, (true), (by first | rfl | (simp; done) | (simp [*]; done)), H', ⟨by first | omega | exact Nat.le_refl _⟩, ⟨by repeat (first | (with_reducible first | exact HB.out | apply below_alloc | apply pw_below_drewN | apply below_drew1) | exact HB.out)⟩⟩
    case rest =>
      clear HC4
      try clear c1
      try clear c2
      try clear c2b0
      try clear c2b1
      try clear p2
      try clear c5
      try clear c5b0
      try clear c5b1
      obtain ⟨kq, x26_3, rfl, HA, HJ3, HB⟩ := hcut
      cases kq with
      | zero => exact absurd HA.out (by simp [delta_Decode.j0])
      | succ kj3 =>
        have H := HA.out
        clear HA
        simp only [delta_Decode.j0] at H
        by_cases c6 : x26_3 = true
        · subst c6
          have H1 : (some (([] : List (S43)), 4)) = some (r1, r2) := by rw [if_pos rfl] at H; exact H
          clear H
          have H := H1
          clear H1
          simp only [Option.some.injEq, Prod.mk.injEq] at H
          obtain ⟨rfl, rfl⟩ := H
          go_wp2
          go_ret2
          exact ⟨_, by first | rfl | (simp [errW_none, errW_some] <;> rfl) | (simp [*, errW_none, errW_some] <;> rfl), by first | exact Kd.R_nil _ _ _ _ _ | exact Kd.N_nil _ _ _ _ _ | exact Kd.V_nil _ _ _ _ _ | exact Kd.Q_nil _ _ _ _ _ | exact Kd.S_nil _ _ _ _ _, by repeat (first | (with_reducible first | exact HB.out | apply below_alloc | apply pw_below_drewN | apply below_drew1) | exact HB.out)⟩
        · replace c6 := Bool.eq_false_iff.mpr c6
          subst c6
          have H1 : (delta_Decode.l0 kj3 l0 t161 ([] : List (S43)) t160 0) = some (r1, r2) := by rw [if_neg (show ¬ (false = true) by decide)] at H; exact H
          clear H
          have H := H1
          clear H1
          have H' := Aside0.mk H
          clear H
          go_wp2
          go_loopg [5, 7, 28] kj3 (fun kq v5 v7 v28 w' => ∃ (x5_2 : Int) (x7_2 : List (S43)) (x28_2 : Int), v5 = .int .i64 x5_2 ∧ v28 = .int .u64 x28_2 ∧ Aside0 (delta_Decode.l0 kq l0 x5_2 x7_2 t160 x28_2 = some (r1, r2)) ∧ Aside0 (kq ≤ kj3) ∧ Aside0 (Kd.R k43 43 w' w.heap.size (fun _ => True) v7 x7_2) ∧ Aside0 (Below w.heap.size w w'))
          case atStart => exact ⟨(t161), (([] : List (S43))), (0), (by first | rfl | (simp; done) | (simp [*]; done)), (by first | rfl | (simp; done) | (simp [*]; done)), H', ⟨Nat.le_refl _⟩, ⟨by first | exact Kd.R_nil _ _ _ _ _ | exact Kd.N_nil _ _ _ _ _ | exact Kd.V_nil _ _ _ _ _ | exact Kd.Q_nil _ _ _ _ _ | exact Kd.S_nil _ _ _ _ _⟩, ⟨by repeat (first | (with_reducible first | exact HB.out | apply below_alloc | apply pw_below_drewN | apply below_drew1) | exact HB.out)⟩⟩
          case round =>
            clear H'
            try clear c1
            try clear c2
            try clear c2b0
            try clear c2b1
            try clear p2
            try clear c5
            try clear c5b0
            try clear c5b1
            try clear c6
            try clear p2
            obtain ⟨x5_2, x7_2, x28_2, rfl, rfl, HA, HK2, HO_7, HB⟩ := hrel
            cases gk with
            | zero => exact absurd HA.out (by simp [delta_Decode.l0])
            | succ k2 =>
              have H := HA.out
              clear HA
              simp only [delta_Decode.l0] at H
              by_cases c7 : x28_2 < t160
              · rw [if_pos c7] at H
                have c7b0 : decide (x28_2 < t160) = true := decide_eq_true c7
                clear c7
                replace H := Option.bind_eq_some_iff.mp H
                obtain ⟨⟨t164, t165, t166⟩, A80, H⟩ := H
                replace H : (if t166 = 0 then (if (Go.bits .and .u64 t164 1) = 1 then (if x7_2.length < 4398046511104 then (delta_Decode.l0 k2 l0 t165 (x7_2 ++ [(⟨true, wrap64 (t164 / 2), (⟨#[]⟩ : ByteArray)⟩ : S43)]) t160 (IntKind.u64.wrap (x28_2 + 1))) else (none)) else (if (t164 / 2) > (IntKind.u64.wrap (wrap64 ((l0.length : Int) - t165))) then (some (([] : List (S43)), 4)) else (if 0 ≤ t165 then (if t165 ≤ (wrap64 (t165 + (wrap64 (t164 / 2)))) then (if (wrap64 (t165 + (wrap64 (t164 / 2)))) ≤ (l0.length : Int) then (if x7_2.length < 4398046511104 then (delta_Decode.l0 k2 l0 (wrap64 (t165 + (wrap64 (t164 / 2)))) (x7_2 ++ [(⟨false, 0, strOfNums ((l0.take ((wrap64 (t165 + (wrap64 (t164 / 2)))) : Int).toNat).drop (t165 : Int).toNat)⟩ : S43)]) t160 (IntKind.u64.wrap (x28_2 + 1))) else (none)) else (none)) else (none)) else (none)))) else (some (([] : List (S43)), 4))) = some (r1, r2) := H
                have A8 := Aside0.mk A80
                clear A80
                by_cases c9 : t166 = 0
                · rw [if_pos c9] at H
                  have c9b0 : (t166 == 0) = true := beq_iff_eq.mpr c9
                  have c9b1 : (t166 != 0) = false := bne_eq_false_iff_eq.mpr c9
                  clear c9
                  by_cases c10 : (Go.bits .and .u64 t164 1) = 1
                  · rw [if_pos c10] at H
                    have c10b0 : ((Go.bits .and .u64 t164 1) == 1) = true := beq_iff_eq.mpr c10
                    have c10b1 : ((Go.bits .and .u64 t164 1) != 1) = false := bne_eq_false_iff_eq.mpr c10
                    clear c10
                    by_cases c11 : x7_2.length < 4398046511104
                    · rw [if_pos c11] at H
                      have LMc11 := Aside0.mk c11
                      clear c11
                      obtain ⟨y167, hy167⟩ : ∃ y_ : List (S43), y_ = (x7_2 ++ [(⟨true, wrap64 (t164 / 2), (⟨#[]⟩ : ByteArray)⟩ : S43)]) := ⟨_, rfl⟩
                      replace H : (delta_Decode.l0 k2 l0 t165 y167 t160 (IntKind.u64.wrap (x28_2 + 1))) = some (r1, r2) := by first | (rw [hy167]; with_reducible exact H) | (have H2_ := (Option.bind_some _ _).symm.trans H; rw [hy167]; with_reducible exact H2_) | (have H2_ := (Option.bind_some _ _).symm.trans H; with_reducible exact H2_) | with_reducible exact H | (rw [hy167]; exact H) | exact H
                      have Ny167 := Aside0.mk hy167
                      clear hy167
                      have H' := Aside0.mk H
                      clear H
                      go_wp2_with (first | ((with_reducible refine gate_callee (f := 25) rfl ?_); refine goesL_ (some 33) rfl rfl Try.func25 (by kernel_rfl) rfl #[.slice A0 l0.length c0, .int .i64 x5_2] rfl (by (try simp only [List.map_toArray, List.map_cons, List.map_nil]); first | done | rfl | (simp only [List.length_drop, List.length_take]; rfl)) ?_; (with_reducible refine (num_Get.calls k2 _ _ l0 x5_2 t164 t165 t166 _ ?side1 ?side2 A8.out).mono ?_); (case side1 => repeat (first | exact (Kd.C_below HR0.out HB.out) | (with_reducible refine Kd.C_alloc ?_ _) | (with_reducible refine Kd.C_drewN ?_ _) | (with_reducible refine Kd.C_drew ?_))); (case side2 => exact HC0.out); rintro e w' ⟨rfl, ⟨nd, rfl⟩⟩; refine ⟨_, rfl, ?_⟩) | ((with_reducible refine gate_builtin (b := .append) (xs := #[.tmp 43, .tmp 48]) rfl ?_); at_builtin; refine Kd.R_append k43 (w0 := w) w.heap.size rfl (.tmp 43) (.tmp 48) 22 43 (.agg #[(.bool false), (.int .i64 0), (.string ⟨#[]⟩)]) 32 rfl Try.underlying22 info43 rfl (by decide) (by omega) u7 x7_2 (⟨true, wrap64 (t164 / 2), (⟨#[]⟩ : ByteArray)⟩ : S43) [.bool true, .int .i64 (wrap64 (t164 / 2)), .string (⟨#[]⟩ : ByteArray)] (fun _ => True) (fun _ => False) rfl rfl ?aP (fun _ hk => hk.elim) ?aF ?aO ?aB ?aS ?aL ?_; (case aP => exact k43_mkM _ _ _ (⟨true, wrap64 (t164 / 2), (⟨#[]⟩ : ByteArray)⟩ : S43)); (case aB => exact (by repeat (first | (with_reducible first | exact HB.out | apply below_alloc | apply pw_below_drewN | apply below_drew1) | exact HB.out))); (case aF => exact (fun _ _ => trivial)); (case aO => exact (by (with_reducible repeat (first | apply Kd.R_alloc | apply Kd.R_drewN | apply Kd.R_drew)); exact HO_7.out)); (case aS => exact (below_size (by repeat (first | (with_reducible first | exact HB.out | apply below_alloc | apply pw_below_drewN | apply below_drew1) | exact HB.out)))); (case aL => have := LMc11.out; omega); intro v168 w12 ho hb hg hat; rw [← Ny167.out] at ho; have n0_ := Aside0.mk (hb); have n1_ := Aside0.mk (ho); clear HB; clear HO_7; have HB := n0_; have HO169 := n1_; clear n0_ n1_; clear ho hb hg hat))
                      go_roundg k2
                      case measure => have := HJ3.out; have := HK2.out; omega
                      case rel => exact ⟨(t165), (y167), (IntKind.u64.wrap (x28_2 + 1)), (by first | rfl | (simp; done) | (simp [*]; done)), (by first | rfl | (simp; done) | (simp [*]; done)), H', ⟨by have := HJ3.out; have := HK2.out; omega⟩, ⟨by (with_reducible repeat (first | apply Kd.R_alloc | apply Kd.R_drewN | apply Kd.R_drew)); exact HO169.out⟩, ⟨by repeat (first | (with_reducible first | exact HB.out | apply below_alloc | apply pw_below_drewN | apply below_drew1) | exact HB.out)⟩⟩
                    · rw [if_neg c11] at H
                      exact absurd H (by simp)
                  · rw [if_neg c10] at H
                    have c10b0 : ((Go.bits .and .u64 t164 1) == 1) = false := beq_eq_false_iff_ne.mpr c10
                    have c10b1 : ((Go.bits .and .u64 t164 1) != 1) = true := bne_iff_ne.mpr c10
                    by_cases c13 : (t164 / 2) > (IntKind.u64.wrap (wrap64 ((l0.length : Int) - t165)))
                    · rw [if_pos c13] at H
                      have c13b0 : decide ((IntKind.u64.wrap (wrap64 ((l0.length : Int) - t165))) < (t164 / 2)) = true := decide_eq_true c13
                      clear c13
                      simp only [Option.some.injEq, Prod.mk.injEq] at H
                      obtain ⟨rfl, rfl⟩ := H
                      go_wp2_with (first | ((with_reducible refine gate_callee (f := 25) rfl ?_); refine goesL_ (some 33) rfl rfl Try.func25 (by kernel_rfl) rfl #[.slice A0 l0.length c0, .int .i64 x5_2] rfl (by (try simp only [List.map_toArray, List.map_cons, List.map_nil]); first | done | rfl | (simp only [List.length_drop, List.length_take]; rfl)) ?_; (with_reducible refine (num_Get.calls k2 _ _ l0 x5_2 t164 t165 t166 _ ?side1 ?side2 A8.out).mono ?_); (case side1 => repeat (first | exact (Kd.C_below HR0.out HB.out) | (with_reducible refine Kd.C_alloc ?_ _) | (with_reducible refine Kd.C_drewN ?_ _) | (with_reducible refine Kd.C_drew ?_))); (case side2 => exact HC0.out); rintro e w' ⟨rfl, ⟨nd, rfl⟩⟩; refine ⟨_, rfl, ?_⟩))
                      go_ret2
                      exact ⟨_, by first | rfl | (simp [errW_none, errW_some] <;> rfl) | (simp [*, errW_none, errW_some] <;> rfl), by first | exact Kd.R_nil _ _ _ _ _ | exact Kd.N_nil _ _ _ _ _ | exact Kd.V_nil _ _ _ _ _ | exact Kd.Q_nil _ _ _ _ _ | exact Kd.S_nil _ _ _ _ _, by repeat (first | (with_reducible first | exact HB.out | apply below_alloc | apply pw_below_drewN | apply below_drew1) | exact HB.out)⟩
                    · rw [if_neg c13] at H
                      have c13b0 : decide ((IntKind.u64.wrap (wrap64 ((l0.length : Int) - t165))) < (t164 / 2)) = false := decide_eq_false c13
                      clear c13
                      by_cases c14 : 0 ≤ t165
                      · rw [if_pos c14] at H
                        have c14b0 := eq_true c14
                        have c14b1 : decide (0 ≤ t165) = true := decide_eq_true c14
                        clear c14
                        by_cases c15 : t165 ≤ (wrap64 (t165 + (wrap64 (t164 / 2))))
                        · rw [if_pos c15] at H
                          have c15b0 := eq_true c15
                          have c15b1 : decide (t165 ≤ (wrap64 (t165 + (wrap64 (t164 / 2))))) = true := decide_eq_true c15
                          by_cases c16 : (wrap64 (t165 + (wrap64 (t164 / 2)))) ≤ (l0.length : Int)
                          · rw [if_pos c16] at H
                            have c16b0 := eq_true c16
                            have c16b1 : decide ((wrap64 (t165 + (wrap64 (t164 / 2)))) ≤ (l0.length : Int)) = true := decide_eq_true c16
                            by_cases c17 : x7_2.length < 4398046511104
                            · rw [if_pos c17] at H
                              have LMc17 := Aside0.mk c17
                              clear c17
                              obtain ⟨y171, hy171⟩ : ∃ y_ : List (S43), y_ = (x7_2 ++ [(⟨false, 0, strOfNums ((l0.take ((wrap64 (t165 + (wrap64 (t164 / 2)))) : Int).toNat).drop (t165 : Int).toNat)⟩ : S43)]) := ⟨_, rfl⟩
                              replace H : (delta_Decode.l0 k2 l0 (wrap64 (t165 + (wrap64 (t164 / 2)))) y171 t160 (IntKind.u64.wrap (x28_2 + 1))) = some (r1, r2) := by first | (rw [hy171]; with_reducible exact H) | (have H2_ := (Option.bind_some _ _).symm.trans H; rw [hy171]; with_reducible exact H2_) | (have H2_ := (Option.bind_some _ _).symm.trans H; with_reducible exact H2_) | with_reducible exact H | (rw [hy171]; exact H) | exact H
                              have Ny171 := Aside0.mk hy171
                              clear hy171
                              have H' := Aside0.mk H
                              clear H
                              go_wp2_with (first | ((with_reducible refine gate_callee (f := 25) rfl ?_); refine goesL_ (some 33) rfl rfl Try.func25 (by kernel_rfl) rfl #[.slice A0 l0.length c0, .int .i64 x5_2] rfl (by (try simp only [List.map_toArray, List.map_cons, List.map_nil]); first | done | rfl | (simp only [List.length_drop, List.length_take]; rfl)) ?_; (with_reducible refine (num_Get.calls k2 _ _ l0 x5_2 t164 t165 t166 _ ?side1 ?side2 A8.out).mono ?_); (case side1 => repeat (first | exact (Kd.C_below HR0.out HB.out) | (with_reducible refine Kd.C_alloc ?_ _) | (with_reducible refine Kd.C_drewN ?_ _) | (with_reducible refine Kd.C_drew ?_))); (case side2 => exact HC0.out); rintro e w' ⟨rfl, ⟨nd, rfl⟩⟩; refine ⟨_, rfl, ?_⟩; obtain ⟨i018, hi018, _, hsz18, _⟩ := info_parts info5; obtain ⟨A18, hcut18, hA18, hC18⟩ := print_mid_of (P := Try.prog) (Value.int .u8) 0 23 5 .i64 .i64 Try.underlying23 hi018 hsz18 A0 c0 l0 t165 (wrap64 (t165 + (wrap64 (t164 / 2)))) (of_decide_eq_true (by first | (with_reducible assumption) | assumption)) (by first | omega | exact of_decide_eq_true (by first | (with_reducible assumption) | assumption)) (of_decide_eq_true (by first | (with_reducible assumption) | assumption)) HC0.out; have HR170 := Aside0.mk (Kd.C_of_reads (h1 := fun _ => rfl) (hA18 _ (Kd.reads_of_C HR0.out))); have HC170 := Aside0.mk hC18; clear hA18 hC18 hi018 hsz18; have hcv19 := Kd.C_string (P := Try.prog) (A := A18) (c := (c0 - t165.toNat)) Try.underlying23 Try.underlying5 Try.underlying9 (Kd.C_drewN (Kd.C_below HR170.out HB.out) nd); rw [List.length_drop, List.length_take, Nat.min_eq_left ((show ∀ E : Int, E ≤ (l0.length : Int) → E.toNat ≤ l0.length from fun _ _ => by omega) _ c16)] at hcv19) | ((with_reducible refine gate_builtin (b := .append) (xs := #[.tmp 63, .tmp 70]) rfl ?_); at_builtin; refine Kd.R_append k43 (w0 := w) w.heap.size rfl (.tmp 63) (.tmp 70) 22 43 (.agg #[(.bool false), (.int .i64 0), (.string ⟨#[]⟩)]) 32 rfl Try.underlying22 info43 rfl (by decide) (by omega) u7 x7_2 (⟨false, 0, strOfNums ((l0.take ((wrap64 (t165 + (wrap64 (t164 / 2)))) : Int).toNat).drop (t165 : Int).toNat)⟩ : S43) [.bool false, .int .i64 0, .string (strOfNums ((l0.take ((wrap64 (t165 + (wrap64 (t164 / 2)))) : Int).toNat).drop (t165 : Int).toNat))] (fun _ => True) (fun _ => False) rfl rfl ?aP (fun _ hk => hk.elim) ?aF ?aO ?aB ?aS ?aL ?_; (case aP => exact k43_mkM _ _ _ (⟨false, 0, strOfNums ((l0.take ((wrap64 (t165 + (wrap64 (t164 / 2)))) : Int).toNat).drop (t165 : Int).toNat)⟩ : S43)); (case aB => exact (by repeat (first | (with_reducible first | exact HB.out | apply below_alloc | apply pw_below_drewN | apply below_drew1) | exact HB.out))); (case aF => exact (fun _ _ => trivial)); (case aO => exact (by (with_reducible repeat (first | apply Kd.R_alloc | apply Kd.R_drewN | apply Kd.R_drew)); exact HO_7.out)); (case aS => exact (below_size (by repeat (first | (with_reducible first | exact HB.out | apply below_alloc | apply pw_below_drewN | apply below_drew1) | exact HB.out)))); (case aL => have := LMc17.out; omega); intro v172 w20 ho hb hg hat; rw [← Ny171.out] at ho; have n0_ := Aside0.mk (hb); have n1_ := Aside0.mk (ho); clear HB; clear HO_7; have HB := n0_; have HO173 := n1_; clear n0_ n1_; clear ho hb hg hat))
                              go_roundg k2
                              case measure => have := HJ3.out; have := HK2.out; omega
                              case rel => exact ⟨(wrap64 (t165 + (wrap64 (t164 / 2)))), (y171), (IntKind.u64.wrap (x28_2 + 1)), (by first | rfl | (simp; done) | (simp [*]; done)), (by first | rfl | (simp; done) | (simp [*]; done)), H', ⟨by have := HJ3.out; have := HK2.out; omega⟩, ⟨by (with_reducible repeat (first | apply Kd.R_alloc | apply Kd.R_drewN | apply Kd.R_drew)); exact HO173.out⟩, ⟨by repeat (first | (with_reducible first | exact HB.out | apply below_alloc | apply pw_below_drewN | apply below_drew1) | exact HB.out)⟩⟩
                            · rw [if_neg c17] at H
                              exact absurd H (by simp)
                          · rw [if_neg c16] at H
                            exact absurd H (by simp)
                        · rw [if_neg c15] at H
                          exact absurd H (by simp)
                      · rw [if_neg c14] at H
                        exact absurd H (by simp)
                · rw [if_neg c9] at H
                  have c9b0 : (t166 == 0) = false := beq_eq_false_iff_ne.mpr c9
                  have c9b1 : (t166 != 0) = true := bne_iff_ne.mpr c9
                  simp only [Option.some.injEq, Prod.mk.injEq] at H
                  obtain ⟨rfl, rfl⟩ := H
                  go_wp2_with (first | ((with_reducible refine gate_callee (f := 25) rfl ?_); refine goesL_ (some 33) rfl rfl Try.func25 (by kernel_rfl) rfl #[.slice A0 l0.length c0, .int .i64 x5_2] rfl (by (try simp only [List.map_toArray, List.map_cons, List.map_nil]); first | done | rfl | (simp only [List.length_drop, List.length_take]; rfl)) ?_; (with_reducible refine (num_Get.calls k2 _ _ l0 x5_2 t164 t165 t166 _ ?side1 ?side2 A8.out).mono ?_); (case side1 => repeat (first | exact (Kd.C_below HR0.out HB.out) | (with_reducible refine Kd.C_alloc ?_ _) | (with_reducible refine Kd.C_drewN ?_ _) | (with_reducible refine Kd.C_drew ?_))); (case side2 => exact HC0.out); rintro e w' ⟨rfl, ⟨nd, rfl⟩⟩; refine ⟨_, rfl, ?_⟩))
                  go_ret2
                  exact ⟨_, by first | rfl | (simp [errW_none, errW_some] <;> rfl) | (simp [*, errW_none, errW_some] <;> rfl), by first | exact Kd.R_nil _ _ _ _ _ | exact Kd.N_nil _ _ _ _ _ | exact Kd.V_nil _ _ _ _ _ | exact Kd.Q_nil _ _ _ _ _ | exact Kd.S_nil _ _ _ _ _, by repeat (first | (with_reducible first | exact HB.out | apply below_alloc | apply pw_below_drewN | apply below_drew1) | exact HB.out)⟩
              · rw [if_neg c7] at H
                have c7b0 : decide (x28_2 < t160) = false := decide_eq_false c7
                clear c7
                by_cases c21 : x5_2 = (l0.length : Int)
                · rw [if_pos c21] at H
                  have c21b0 : (x5_2 == (l0.length : Int)) = true := beq_iff_eq.mpr c21
                  have c21b1 : (x5_2 != (l0.length : Int)) = false := bne_eq_false_iff_eq.mpr c21
                  clear c21
                  replace H := Option.bind_eq_some_iff.mp H
                  obtain ⟨t163, A220, H⟩ := H
                  replace H : (if t163 = 0 then (some (x7_2, 0)) else (some (([] : List (S43)), 4))) = some (r1, r2) := H
                  have A22 := Aside0.mk A220
                  clear A220
                  by_cases c23 : t163 = 0
                  · rw [if_pos c23] at H
                    have c23b0 : (t163 == 0) = true := beq_iff_eq.mpr c23
                    have c23b1 : (t163 != 0) = false := bne_eq_false_iff_eq.mpr c23
                    clear c23
                    simp only [Option.some.injEq, Prod.mk.injEq] at H
                    obtain ⟨rfl, rfl⟩ := H
                    obtain ⟨Ao24, co24, eo24⟩ := Kd.R_slice HO_7.out
                    subst eo24
                    go_wp2_with (first | (go_at_call 22; (with_reducible refine (delta_Check.calls k2 _ _ x7_2 t163 _ ?side1 ?side2 A22.out).mono ?_); (case side1 => repeat (first | exact (Kd.R_reads' HO_7.out).2.2 | (with_reducible refine Kd.C_alloc ?_ _) | (with_reducible refine Kd.C_drewN ?_ _) | (with_reducible refine Kd.C_drew ?_))); (case side2 => exact (Kd.R_reads' HO_7.out).2.1); rintro e w25 ⟨rfl, hb⟩; have n0_ := Aside0.mk (Kd.R_below (by (with_reducible repeat (first | apply Kd.R_alloc | apply Kd.R_drewN | apply Kd.R_drew)); exact HO_7.out) hb); have n1_ := Aside0.mk (below_step (by repeat (first | (with_reducible first | exact HB.out | apply below_alloc | apply pw_below_drewN | apply below_drew1) | exact HB.out)) hb); clear HO_7; clear HB; have HO_7 := n0_; have HB := n1_; clear n0_ n1_; (try clear hb); (try clear hb2); (try clear hk); (try clear hi)))
                    go_ret2
                    exact ⟨_, by first | rfl | (simp [errW_none, errW_some] <;> rfl) | (simp [*, errW_none, errW_some] <;> rfl), by (with_reducible repeat (first | apply Kd.R_alloc | apply Kd.R_drewN | apply Kd.R_drew)); exact HO_7.out, by repeat (first | (with_reducible first | exact HB.out | apply below_alloc | apply pw_below_drewN | apply below_drew1) | exact HB.out)⟩
                  · rw [if_neg c23] at H
                    have c23b0 : (t163 == 0) = false := beq_eq_false_iff_ne.mpr c23
                    have c23b1 : (t163 != 0) = true := bne_iff_ne.mpr c23
                    simp only [Option.some.injEq, Prod.mk.injEq] at H
                    obtain ⟨rfl, rfl⟩ := H
                    obtain ⟨Ao26, co26, eo26⟩ := Kd.R_slice HO_7.out
                    subst eo26
                    go_wp2_with (first | (go_at_call 22; (with_reducible refine (delta_Check.calls k2 _ _ x7_2 t163 _ ?side1 ?side2 A22.out).mono ?_); (case side1 => repeat (first | exact (Kd.R_reads' HO_7.out).2.2 | (with_reducible refine Kd.C_alloc ?_ _) | (with_reducible refine Kd.C_drewN ?_ _) | (with_reducible refine Kd.C_drew ?_))); (case side2 => exact (Kd.R_reads' HO_7.out).2.1); rintro e w27 ⟨rfl, hb⟩; have n0_ := Aside0.mk (Kd.R_below (by (with_reducible repeat (first | apply Kd.R_alloc | apply Kd.R_drewN | apply Kd.R_drew)); exact HO_7.out) hb); have n1_ := Aside0.mk (below_step (by repeat (first | (with_reducible first | exact HB.out | apply below_alloc | apply pw_below_drewN | apply below_drew1) | exact HB.out)) hb); clear HO_7; clear HB; have HO_7 := n0_; have HB := n1_; clear n0_ n1_; (try clear hb); (try clear hb2); (try clear hk); (try clear hi)))
                    go_ret2
                    exact ⟨_, by first | rfl | (simp [errW_none, errW_some] <;> rfl) | (simp [*, errW_none, errW_some] <;> rfl), by first | exact Kd.R_nil _ _ _ _ _ | exact Kd.N_nil _ _ _ _ _ | exact Kd.V_nil _ _ _ _ _ | exact Kd.Q_nil _ _ _ _ _ | exact Kd.S_nil _ _ _ _ _, by repeat (first | (with_reducible first | exact HB.out | apply below_alloc | apply pw_below_drewN | apply below_drew1) | exact HB.out)⟩
                · rw [if_neg c21] at H
                  have c21b0 : (x5_2 == (l0.length : Int)) = false := beq_eq_false_iff_ne.mpr c21
                  have c21b1 : (x5_2 != (l0.length : Int)) = true := bne_iff_ne.mpr c21
                  simp only [Option.some.injEq, Prod.mk.injEq] at H
                  obtain ⟨rfl, rfl⟩ := H
                  go_wp2
                  go_ret2
                  exact ⟨_, by first | rfl | (simp [errW_none, errW_some] <;> rfl) | (simp [*, errW_none, errW_some] <;> rfl), by first | exact Kd.R_nil _ _ _ _ _ | exact Kd.N_nil _ _ _ _ _ | exact Kd.V_nil _ _ _ _ _ | exact Kd.Q_nil _ _ _ _ _ | exact Kd.S_nil _ _ _ _ _, by repeat (first | (with_reducible first | exact HB.out | apply below_alloc | apply pw_below_drewN | apply below_drew1) | exact HB.out)⟩

end Go.Proofs.Ytimcafohmahapaa.F

-- F11
namespace Go.Proofs.Ytimcafohmahapaa.F
open Go.RowKit Go.Proofs.YtimcafohmahapaaW.PrintWords Go.Proofs.YtimcafohmahapaaW.PrintLast Go.Proofs.YtimcafohmahapaaW.PrintMore
attribute [local go_sem] max2_int min2_int max_two min_two max_three min_three max_four min_four   -- for this text's walks alone
set_option linter.unusedVariables false
set_option linter.unusedSimpArgs false

/-! ### strongroomref11_Decode: function 11 -/
mutual
def strongroomref11_Decode.j0 : Nat → ByteArray → Int → Int → Bool → Option ((List (S43)) × Int)
  | 0, _, _, _, _ => none
  | k + 1, x0, x4, x5, x26 => if x26 = true then (some (([] : List (S43)), 4)) else (strongroomref11_Decode.l0 k x0 x4 x5 ([] : List (S43)) 0)
def strongroomref11_Decode.l0 : Nat → ByteArray → Int → Int → List (S43) → Int → Option ((List (S43)) × Int)
  | 0, _, _, _, _, _ => none
  | k + 1, x0, x4, x5, x7, x8 => if x8 < x4 then ((strongroomref01_Get.f k x0 x5).bind fun bt181 => (if bt181.2.2 = 0 then (if (Int.tmod bt181.1 2) = 1 then (if x7.length < 4398046511104 then (strongroomref11_Decode.l0 k x0 x4 bt181.2.1 (x7 ++ [(⟨true, wrap64 (IntKind.u64.wrap (Int.tdiv bt181.1 2)), (⟨#[]⟩ : ByteArray)⟩ : S43)]) (IntKind.u64.wrap (x8 + 1))) else (none)) else (if (IntKind.u64.wrap (Int.tdiv bt181.1 2)) > (IntKind.u64.wrap (wrap64 ((x0.size : Int) - bt181.2.1))) then (some (([] : List (S43)), 4)) else (if 0 ≤ bt181.2.1 then (if bt181.2.1 ≤ (wrap64 (bt181.2.1 + (wrap64 (IntKind.u64.wrap (Int.tdiv bt181.1 2))))) then (if (wrap64 (bt181.2.1 + (wrap64 (IntKind.u64.wrap (Int.tdiv bt181.1 2))))) ≤ (x0.size : Int) then (if x7.length < 4398046511104 then (strongroomref11_Decode.l0 k x0 x4 (wrap64 (bt181.2.1 + (wrap64 (IntKind.u64.wrap (Int.tdiv bt181.1 2))))) (x7 ++ [(⟨false, 0, x0.extract (bt181.2.1 : Int).toNat ((wrap64 (bt181.2.1 + (wrap64 (IntKind.u64.wrap (Int.tdiv bt181.1 2))))) : Int).toNat⟩ : S43)]) (IntKind.u64.wrap (x8 + 1))) else (none)) else (none)) else (none)) else (none)))) else (some (([] : List (S43)), 4)))) else (if x5 = (x0.size : Int) then ((strongroomref11_May.f k x7).bind fun t180 => (if t180 = true then (some (x7, 0)) else (some (([] : List (S43)), 4)))) else (some (([] : List (S43)), 4)))
end
def strongroomref11_Decode.f (k : Nat) (a0 : ByteArray) : Option ((List (S43)) × Int) := if (a0.size : Int) > 65536 then (some (([] : List (S43)), 2)) else ((strongroomref01_Get.f k a0 0).bind fun bt177 => (if bt177.2.2 = 0 then (strongroomref11_Decode.j0 k a0 bt177.1 bt177.2.1 (decide (bt177.1 > 1024))) else (strongroomref11_Decode.j0 k a0 bt177.1 bt177.2.1 true)))
set_option maxHeartbeats 8000000 in
set_option maxRecDepth 100000 in
theorem strongroomref11_Decode.calls (k : Nat) (a0 : ByteArray) (r1 : List (S43)) (r2 : Int) (w : World) (h : strongroomref11_Decode.f k a0 = some (r1, r2)) :
    Calls Try.prog 11 #[.string a0] w fun e w' => ∃ v0_ : Value, e = .returned (.tuple #[v0_, .int .i64 r2]) ∧ Kd.R k43 43 w' w.heap.size (fun _ => True) v0_ r1 ∧ Below w.heap.size w w' := by
  have hu43 := Try.underlying43
  have HB := Aside0.mk (Below.refl w.heap.size w)
  have H : (if (a0.size : Int) > 65536 then (some (([] : List (S43)), 2)) else ((strongroomref01_Get.f k a0 0).bind fun bt177 => (if bt177.2.2 = 0 then (strongroomref11_Decode.j0 k a0 bt177.1 bt177.2.1 (decide (bt177.1 > 1024))) else (strongroomref11_Decode.j0 k a0 bt177.1 bt177.2.1 true)))) = some (r1, r2) := h
  clear h
  by_cases c2 : (a0.size : Int) > 65536
  · rw [if_pos c2] at H
    have c2b0 : decide (65536 < (a0.size : Int)) = true := decide_eq_true c2
    have c2b1 : decide (65536 < a0.size) = true := decide_eq_true (by omega)
    clear c2
    simp only [Option.some.injEq, Prod.mk.injEq] at H
    obtain ⟨rfl, rfl⟩ := H
    go_enter Try.func11, Try.ntmps11
    go_wp2
    go_ret2
    exact ⟨_, by first | rfl | (simp [errW_none, errW_some] <;> rfl) | (simp [*, errW_none, errW_some] <;> rfl), by first | exact Kd.R_nil _ _ _ _ _ | exact Kd.N_nil _ _ _ _ _ | exact Kd.V_nil _ _ _ _ _ | exact Kd.Q_nil _ _ _ _ _ | exact Kd.S_nil _ _ _ _ _, by repeat (first | (with_reducible first | exact HB.out | apply below_alloc | apply pw_below_drewN | apply below_drew1) | exact HB.out)⟩
  · rw [if_neg c2] at H
    have c2b0 : decide (65536 < (a0.size : Int)) = false := decide_eq_false c2
    have c2b1 : decide (65536 < a0.size) = false := decide_eq_false (by omega)
    clear c2
    replace H := Option.bind_eq_some_iff.mp H
    obtain ⟨⟨t177, t178, t179⟩, A30, H⟩ := H
    replace H : (if t179 = 0 then (strongroomref11_Decode.j0 k a0 t177 t178 (decide (t177 > 1024))) else (strongroomref11_Decode.j0 k a0 t177 t178 true)) = some (r1, r2) := H
    have A3 := Aside0.mk A30
    clear A30
    have HC4 := Aside0.mk H
    clear H
    go_enter Try.func11, Try.ntmps11
    go_upto_region 4 with (first | ((with_reducible refine gate_callee (f := 26) rfl ?_); refine goesL_ (some 17) rfl rfl Try.func26 (by kernel_rfl) rfl #[.string a0, .int .i64 0] rfl (by (try simp only [List.map_toArray, List.map_cons, List.map_nil]); first | done | rfl | (simp only [List.length_drop, List.length_take]; rfl)) ?_; (with_reducible refine (strongroomref01_Get.calls k a0 0 t177 t178 t179 _ A3.out).mono ?_); rintro e w' ⟨rfl, ⟨nd, rfl⟩⟩; refine ⟨_, rfl, ?_⟩))
    (try simp only [Act.put, List.setIfInBounds_toArray, List.set_cons_zero, List.set_cons_succ])
    go_cut [26] (fun v26 wc => ∃ (kq : Nat) (x26_3 : Bool), v26 = .bool x26_3 ∧ Aside0 (strongroomref11_Decode.j0 kq a0 t177 t178 x26_3 = some (r1, r2)) ∧ Aside0 (kq ≤ k) ∧ Aside0 (Below w.heap.size w wc))
    case first =>
      have H := HC4.out
      clear HC4
      by_cases c5 : t179 = 0
      · rw [if_pos c5] at H
        have c5b0 : (t179 == 0) = true := beq_iff_eq.mpr c5
        have c5b1 : (t179 != 0) = false := bne_eq_false_iff_eq.mpr c5
        clear c5
        (first | rw [c5b0] | (simp only [i64_w, i32_w]; rw [c5b0]) | skip)
        have H' := Aside0.mk H
        clear H
        go_wp2
        go_meet
        case rel => exact ⟨_, (decide (t177 > 1024)), (by first | rfl | (simp; done) | (simp [*]; done)), H', ⟨by first | omega | exact Nat.le_refl _⟩, ⟨by repeat (first | (with_reducible first | exact HB.out | apply below_alloc | apply pw_below_drewN | apply below_drew1) | exact HB.out)⟩⟩
      · rw [if_neg c5] at H
        have c5b0 : (t179 == 0) = false := beq_eq_false_iff_ne.mpr c5
        have c5b1 : (t179 != 0) = true := bne_iff_ne.mpr c5
        (first | rw [c5b0] | (simp only [i64_w, i32_w]; rw [c5b0]) | skip)
        have H' := Aside0.mk H
        clear H
        go_wp2
        go_meet
        case rel => exact ⟨_, (true), (by first | rfl | (simp; done) | (simp [*]; done)), H', ⟨by first | omega | exact Nat.le_refl _⟩, ⟨by repeat (first | (with_reducible first | exact HB.out | apply below_alloc | apply pw_below_drewN | apply below_drew1) | exact HB.out)⟩⟩
    case rest =>
      clear HC4
      try clear c1
      try clear c2
      try clear c2b0
      try clear c2b1
      try clear p2
      try clear c5
      try clear c5b0
      try clear c5b1
      obtain ⟨kq, x26_3, rfl, HA, HJ3, HB⟩ := hcut
      cases kq with
      | zero => exact absurd HA.out (by simp [strongroomref11_Decode.j0])
      | succ kj3 =>
        have H := HA.out
        clear HA
        simp only [strongroomref11_Decode.j0] at H
        by_cases c6 : x26_3 = true
        · subst c6
          have H1 : (some (([] : List (S43)), 4)) = some (r1, r2) := by rw [if_pos rfl] at H; exact H
          clear H
          have H := H1
          clear H1
          simp only [Option.some.injEq, Prod.mk.injEq] at H
          obtain ⟨rfl, rfl⟩ := H
          go_wp2
          go_ret2
          exact ⟨_, by first | rfl | (simp [errW_none, errW_some] <;> rfl) | (simp [*, errW_none, errW_some] <;> rfl), by first | exact Kd.R_nil _ _ _ _ _ | exact Kd.N_nil _ _ _ _ _ | exact Kd.V_nil _ _ _ _ _ | exact Kd.Q_nil _ _ _ _ _ | exact Kd.S_nil _ _ _ _ _, by repeat (first | (with_reducible first | exact HB.out | apply below_alloc | apply pw_below_drewN | apply below_drew1) | exact HB.out)⟩
        · replace c6 := Bool.eq_false_iff.mpr c6
          subst c6
          have H1 : (strongroomref11_Decode.l0 kj3 a0 t177 t178 ([] : List (S43)) 0) = some (r1, r2) := by rw [if_neg (show ¬ (false = true) by decide)] at H; exact H
          clear H
          have H := H1
          clear H1
          have H' := Aside0.mk H
          clear H
          go_wp2
          go_loopg [5, 7, 8] kj3 (fun kq v5 v7 v8 w' => ∃ (x5_2 : Int) (x7_2 : List (S43)) (x8_2 : Int), v5 = .int .i64 x5_2 ∧ v8 = .int .u64 x8_2 ∧ Aside0 (strongroomref11_Decode.l0 kq a0 t177 x5_2 x7_2 x8_2 = some (r1, r2)) ∧ Aside0 (kq ≤ kj3) ∧ Aside0 (Kd.R k43 43 w' w.heap.size (fun _ => True) v7 x7_2) ∧ Aside0 (Below w.heap.size w w'))
          case atStart => exact ⟨(t178), (([] : List (S43))), (0), (by first | rfl | (simp; done) | (simp [*]; done)), (by first | rfl | (simp; done) | (simp [*]; done)), H', ⟨Nat.le_refl _⟩, ⟨by first | exact Kd.R_nil _ _ _ _ _ | exact Kd.N_nil _ _ _ _ _ | exact Kd.V_nil _ _ _ _ _ | exact Kd.Q_nil _ _ _ _ _ | exact Kd.S_nil _ _ _ _ _⟩, ⟨by repeat (first | (with_reducible first | exact HB.out | apply below_alloc | apply pw_below_drewN | apply below_drew1) | exact HB.out)⟩⟩
          case round =>
            clear H'
            try clear c1
            try clear c2
            try clear c2b0
            try clear c2b1
            try clear p2
            try clear c5
            try clear c5b0
            try clear c5b1
            try clear c6
            try clear p2
            obtain ⟨x5_2, x7_2, x8_2, rfl, rfl, HA, HK2, HO_7, HB⟩ := hrel
            cases gk with
            | zero => exact absurd HA.out (by simp [strongroomref11_Decode.l0])
            | succ k2 =>
              have H := HA.out
              clear HA
              simp only [strongroomref11_Decode.l0] at H
              by_cases c7 : x8_2 < t177
              · rw [if_pos c7] at H
                have c7b0 : decide (x8_2 < t177) = true := decide_eq_true c7
                clear c7
                replace H := Option.bind_eq_some_iff.mp H
                obtain ⟨⟨t181, t182, t183⟩, A80, H⟩ := H
                replace H : (if t183 = 0 then (if (Int.tmod t181 2) = 1 then (if x7_2.length < 4398046511104 then (strongroomref11_Decode.l0 k2 a0 t177 t182 (x7_2 ++ [(⟨true, wrap64 (IntKind.u64.wrap (Int.tdiv t181 2)), (⟨#[]⟩ : ByteArray)⟩ : S43)]) (IntKind.u64.wrap (x8_2 + 1))) else (none)) else (if (IntKind.u64.wrap (Int.tdiv t181 2)) > (IntKind.u64.wrap (wrap64 ((a0.size : Int) - t182))) then (some (([] : List (S43)), 4)) else (if 0 ≤ t182 then (if t182 ≤ (wrap64 (t182 + (wrap64 (IntKind.u64.wrap (Int.tdiv t181 2))))) then (if (wrap64 (t182 + (wrap64 (IntKind.u64.wrap (Int.tdiv t181 2))))) ≤ (a0.size : Int) then (if x7_2.length < 4398046511104 then (strongroomref11_Decode.l0 k2 a0 t177 (wrap64 (t182 + (wrap64 (IntKind.u64.wrap (Int.tdiv t181 2))))) (x7_2 ++ [(⟨false, 0, a0.extract (t182 : Int).toNat ((wrap64 (t182 + (wrap64 (IntKind.u64.wrap (Int.tdiv t181 2))))) : Int).toNat⟩ : S43)]) (IntKind.u64.wrap (x8_2 + 1))) else (none)) else (none)) else (none)) else (none)))) else (some (([] : List (S43)), 4))) = some (r1, r2) := H
                have A8 := Aside0.mk A80
                clear A80
                by_cases c9 : t183 = 0
                · rw [if_pos c9] at H
                  have c9b0 : (t183 == 0) = true := beq_iff_eq.mpr c9
                  have c9b1 : (t183 != 0) = false := bne_eq_false_iff_eq.mpr c9
                  clear c9
                  by_cases c10 : (Int.tmod t181 2) = 1
                  · rw [if_pos c10] at H
                    have c10b0 : ((Int.tmod t181 2) == 1) = true := beq_iff_eq.mpr c10
                    have c10b1 : ((Int.tmod t181 2) != 1) = false := bne_eq_false_iff_eq.mpr c10
                    clear c10
                    by_cases c11 : x7_2.length < 4398046511104
                    · rw [if_pos c11] at H
                      have LMc11 := Aside0.mk c11
                      clear c11
                      obtain ⟨y184, hy184⟩ : ∃ y_ : List (S43), y_ = (x7_2 ++ [(⟨true, wrap64 (IntKind.u64.wrap (Int.tdiv t181 2)), (⟨#[]⟩ : ByteArray)⟩ : S43)]) := ⟨_, rfl⟩
                      replace H : (strongroomref11_Decode.l0 k2 a0 t177 t182 y184 (IntKind.u64.wrap (x8_2 + 1))) = some (r1, r2) := by first | (rw [hy184]; with_reducible exact H) | (have H2_ := (Option.bind_some _ _).symm.trans H; rw [hy184]; with_reducible exact H2_) | (have H2_ := (Option.bind_some _ _).symm.trans H; with_reducible exact H2_) | with_reducible exact H | (rw [hy184]; exact H) | exact H
                      have Ny184 := Aside0.mk hy184
                      clear hy184
                      have H' := Aside0.mk H
                      clear H
                      go_wp2_with (first | ((with_reducible refine gate_callee (f := 26) rfl ?_); refine goesL_ (some 35) rfl rfl Try.func26 (by kernel_rfl) rfl #[.string a0, .int .i64 x5_2] rfl (by (try simp only [List.map_toArray, List.map_cons, List.map_nil]); first | done | rfl | (simp only [List.length_drop, List.length_take]; rfl)) ?_; (with_reducible refine (strongroomref01_Get.calls k2 a0 x5_2 t181 t182 t183 _ A8.out).mono ?_); rintro e w' ⟨rfl, ⟨nd, rfl⟩⟩; refine ⟨_, rfl, ?_⟩) | ((with_reducible refine gate_builtin (b := .append) (xs := #[.tmp 45, .tmp 50]) rfl ?_); at_builtin; refine Kd.R_append k43 (w0 := w) w.heap.size rfl (.tmp 45) (.tmp 50) 22 43 (.agg #[(.bool false), (.int .i64 0), (.string ⟨#[]⟩)]) 32 rfl Try.underlying22 info43 rfl (by decide) (by omega) u7 x7_2 (⟨true, wrap64 (IntKind.u64.wrap (Int.tdiv t181 2)), (⟨#[]⟩ : ByteArray)⟩ : S43) [.bool true, .int .i64 (wrap64 (IntKind.u64.wrap (Int.tdiv t181 2))), .string (⟨#[]⟩ : ByteArray)] (fun _ => True) (fun _ => False) rfl rfl ?aP (fun _ hk => hk.elim) ?aF ?aO ?aB ?aS ?aL ?_; (case aP => exact k43_mkM _ _ _ (⟨true, wrap64 (IntKind.u64.wrap (Int.tdiv t181 2)), (⟨#[]⟩ : ByteArray)⟩ : S43)); (case aB => exact (by repeat (first | (with_reducible first | exact HB.out | apply below_alloc | apply pw_below_drewN | apply below_drew1) | exact HB.out))); (case aF => exact (fun _ _ => trivial)); (case aO => exact (by (with_reducible repeat (first | apply Kd.R_alloc | apply Kd.R_drewN | apply Kd.R_drew)); exact HO_7.out)); (case aS => exact (below_size (by repeat (first | (with_reducible first | exact HB.out | apply below_alloc | apply pw_below_drewN | apply below_drew1) | exact HB.out)))); (case aL => have := LMc11.out; omega); intro v185 w12 ho hb hg hat; rw [← Ny184.out] at ho; have n0_ := Aside0.mk (hb); have n1_ := Aside0.mk (ho); clear HB; clear HO_7; have HB := n0_; have HO186 := n1_; clear n0_ n1_; clear ho hb hg hat))
                      go_roundg k2
                      case measure => have := HJ3.out; have := HK2.out; omega
                      case rel => exact ⟨(t182), (y184), (IntKind.u64.wrap (x8_2 + 1)), (by first | rfl | (simp; done) | (simp [*]; done)), (by first | rfl | (simp; done) | (simp [*]; done)), H', ⟨by have := HJ3.out; have := HK2.out; omega⟩, ⟨by (with_reducible repeat (first | apply Kd.R_alloc | apply Kd.R_drewN | apply Kd.R_drew)); exact HO186.out⟩, ⟨by repeat (first | (with_reducible first | exact HB.out | apply below_alloc | apply pw_below_drewN | apply below_drew1) | exact HB.out)⟩⟩
                    · rw [if_neg c11] at H
                      exact absurd H (by simp)
                  · rw [if_neg c10] at H
                    have c10b0 : ((Int.tmod t181 2) == 1) = false := beq_eq_false_iff_ne.mpr c10
                    have c10b1 : ((Int.tmod t181 2) != 1) = true := bne_iff_ne.mpr c10
                    by_cases c13 : (IntKind.u64.wrap (Int.tdiv t181 2)) > (IntKind.u64.wrap (wrap64 ((a0.size : Int) - t182)))
                    · rw [if_pos c13] at H
                      have c13b0 : decide ((IntKind.u64.wrap (wrap64 ((a0.size : Int) - t182))) < (IntKind.u64.wrap (Int.tdiv t181 2))) = true := decide_eq_true c13
                      clear c13
                      simp only [Option.some.injEq, Prod.mk.injEq] at H
                      obtain ⟨rfl, rfl⟩ := H
                      go_wp2_with (first | ((with_reducible refine gate_callee (f := 26) rfl ?_); refine goesL_ (some 35) rfl rfl Try.func26 (by kernel_rfl) rfl #[.string a0, .int .i64 x5_2] rfl (by (try simp only [List.map_toArray, List.map_cons, List.map_nil]); first | done | rfl | (simp only [List.length_drop, List.length_take]; rfl)) ?_; (with_reducible refine (strongroomref01_Get.calls k2 a0 x5_2 t181 t182 t183 _ A8.out).mono ?_); rintro e w' ⟨rfl, ⟨nd, rfl⟩⟩; refine ⟨_, rfl, ?_⟩))
                      go_ret2
                      exact ⟨_, by first | rfl | (simp [errW_none, errW_some] <;> rfl) | (simp [*, errW_none, errW_some] <;> rfl), by first | exact Kd.R_nil _ _ _ _ _ | exact Kd.N_nil _ _ _ _ _ | exact Kd.V_nil _ _ _ _ _ | exact Kd.Q_nil _ _ _ _ _ | exact Kd.S_nil _ _ _ _ _, by repeat (first | (with_reducible first | exact HB.out | apply below_alloc | apply pw_below_drewN | apply below_drew1) | exact HB.out)⟩
                    · rw [if_neg c13] at H
                      have c13b0 : decide ((IntKind.u64.wrap (wrap64 ((a0.size : Int) - t182))) < (IntKind.u64.wrap (Int.tdiv t181 2))) = false := decide_eq_false c13
                      clear c13
                      by_cases c14 : 0 ≤ t182
                      · rw [if_pos c14] at H
                        have c14b0 := eq_true c14
                        have c14b1 : decide (0 ≤ t182) = true := decide_eq_true c14
                        clear c14
                        by_cases c15 : t182 ≤ (wrap64 (t182 + (wrap64 (IntKind.u64.wrap (Int.tdiv t181 2)))))
                        · rw [if_pos c15] at H
                          have c15b0 := eq_true c15
                          have c15b1 : decide (t182 ≤ (wrap64 (t182 + (wrap64 (IntKind.u64.wrap (Int.tdiv t181 2)))))) = true := decide_eq_true c15
                          by_cases c16 : (wrap64 (t182 + (wrap64 (IntKind.u64.wrap (Int.tdiv t181 2))))) ≤ (a0.size : Int)
                          · rw [if_pos c16] at H
                            have c16b0 := eq_true c16
                            have c16b1 : decide ((wrap64 (t182 + (wrap64 (IntKind.u64.wrap (Int.tdiv t181 2))))) ≤ (a0.size : Int)) = true := decide_eq_true c16
                            by_cases c17 : x7_2.length < 4398046511104
                            · rw [if_pos c17] at H
                              have LMc17 := Aside0.mk c17
                              clear c17
                              obtain ⟨y187, hy187⟩ : ∃ y_ : List (S43), y_ = (x7_2 ++ [(⟨false, 0, a0.extract (t182 : Int).toNat ((wrap64 (t182 + (wrap64 (IntKind.u64.wrap (Int.tdiv t181 2))))) : Int).toNat⟩ : S43)]) := ⟨_, rfl⟩
                              replace H : (strongroomref11_Decode.l0 k2 a0 t177 (wrap64 (t182 + (wrap64 (IntKind.u64.wrap (Int.tdiv t181 2))))) y187 (IntKind.u64.wrap (x8_2 + 1))) = some (r1, r2) := by first | (rw [hy187]; with_reducible exact H) | (have H2_ := (Option.bind_some _ _).symm.trans H; rw [hy187]; with_reducible exact H2_) | (have H2_ := (Option.bind_some _ _).symm.trans H; with_reducible exact H2_) | with_reducible exact H | (rw [hy187]; exact H) | exact H
                              have Ny187 := Aside0.mk hy187
                              clear hy187
                              have H' := Aside0.mk H
                              clear H
                              go_wp2_with (first | ((with_reducible refine gate_callee (f := 26) rfl ?_); refine goesL_ (some 35) rfl rfl Try.func26 (by kernel_rfl) rfl #[.string a0, .int .i64 x5_2] rfl (by (try simp only [List.map_toArray, List.map_cons, List.map_nil]); first | done | rfl | (simp only [List.length_drop, List.length_take]; rfl)) ?_; (with_reducible refine (strongroomref01_Get.calls k2 a0 x5_2 t181 t182 t183 _ A8.out).mono ?_); rintro e w' ⟨rfl, ⟨nd, rfl⟩⟩; refine ⟨_, rfl, ?_⟩) | ((with_reducible refine gate_builtin (b := .append) (xs := #[.tmp 60, .tmp 70]) rfl ?_); at_builtin; refine Kd.R_append k43 (w0 := w) w.heap.size rfl (.tmp 60) (.tmp 70) 22 43 (.agg #[(.bool false), (.int .i64 0), (.string ⟨#[]⟩)]) 32 rfl Try.underlying22 info43 rfl (by decide) (by omega) u7 x7_2 (⟨false, 0, a0.extract (t182 : Int).toNat ((wrap64 (t182 + (wrap64 (IntKind.u64.wrap (Int.tdiv t181 2))))) : Int).toNat⟩ : S43) [.bool false, .int .i64 0, .string (a0.extract (t182 : Int).toNat ((wrap64 (t182 + (wrap64 (IntKind.u64.wrap (Int.tdiv t181 2))))) : Int).toNat)] (fun _ => True) (fun _ => False) rfl rfl ?aP (fun _ hk => hk.elim) ?aF ?aO ?aB ?aS ?aL ?_; (case aP => exact k43_mkM _ _ _ (⟨false, 0, a0.extract (t182 : Int).toNat ((wrap64 (t182 + (wrap64 (IntKind.u64.wrap (Int.tdiv t181 2))))) : Int).toNat⟩ : S43)); (case aB => exact (by repeat (first | (with_reducible first | exact HB.out | apply below_alloc | apply pw_below_drewN | apply below_drew1) | exact HB.out))); (case aF => exact (fun _ _ => trivial)); (case aO => exact (by (with_reducible repeat (first | apply Kd.R_alloc | apply Kd.R_drewN | apply Kd.R_drew)); exact HO_7.out)); (case aS => exact (below_size (by repeat (first | (with_reducible first | exact HB.out | apply below_alloc | apply pw_below_drewN | apply below_drew1) | exact HB.out)))); (case aL => have := LMc17.out; omega); intro v188 w18 ho hb hg hat; rw [← Ny187.out] at ho; have n0_ := Aside0.mk (hb); have n1_ := Aside0.mk (ho); clear HB; clear HO_7; have HB := n0_; have HO189 := n1_; clear n0_ n1_; clear ho hb hg hat))
                              go_roundg k2
                              case measure => have := HJ3.out; have := HK2.out; omega
                              case rel => exact ⟨(wrap64 (t182 + (wrap64 (IntKind.u64.wrap (Int.tdiv t181 2))))), (y187), (IntKind.u64.wrap (x8_2 + 1)), (by first | rfl | (simp; done) | (simp [*]; done)), (by first | rfl | (simp; done) | (simp [*]; done)), H', ⟨by have := HJ3.out; have := HK2.out; omega⟩, ⟨by (with_reducible repeat (first | apply Kd.R_alloc | apply Kd.R_drewN | apply Kd.R_drew)); exact HO189.out⟩, ⟨by repeat (first | (with_reducible first | exact HB.out | apply below_alloc | apply pw_below_drewN | apply below_drew1) | exact HB.out)⟩⟩
                            · rw [if_neg c17] at H
                              exact absurd H (by simp)
                          · rw [if_neg c16] at H
                            exact absurd H (by simp)
                        · rw [if_neg c15] at H
                          exact absurd H (by simp)
                      · rw [if_neg c14] at H
                        exact absurd H (by simp)
                · rw [if_neg c9] at H
                  have c9b0 : (t183 == 0) = false := beq_eq_false_iff_ne.mpr c9
                  have c9b1 : (t183 != 0) = true := bne_iff_ne.mpr c9
                  simp only [Option.some.injEq, Prod.mk.injEq] at H
                  obtain ⟨rfl, rfl⟩ := H
                  go_wp2_with (first | ((with_reducible refine gate_callee (f := 26) rfl ?_); refine goesL_ (some 35) rfl rfl Try.func26 (by kernel_rfl) rfl #[.string a0, .int .i64 x5_2] rfl (by (try simp only [List.map_toArray, List.map_cons, List.map_nil]); first | done | rfl | (simp only [List.length_drop, List.length_take]; rfl)) ?_; (with_reducible refine (strongroomref01_Get.calls k2 a0 x5_2 t181 t182 t183 _ A8.out).mono ?_); rintro e w' ⟨rfl, ⟨nd, rfl⟩⟩; refine ⟨_, rfl, ?_⟩))
                  go_ret2
                  exact ⟨_, by first | rfl | (simp [errW_none, errW_some] <;> rfl) | (simp [*, errW_none, errW_some] <;> rfl), by first | exact Kd.R_nil _ _ _ _ _ | exact Kd.N_nil _ _ _ _ _ | exact Kd.V_nil _ _ _ _ _ | exact Kd.Q_nil _ _ _ _ _ | exact Kd.S_nil _ _ _ _ _, by repeat (first | (with_reducible first | exact HB.out | apply below_alloc | apply pw_below_drewN | apply below_drew1) | exact HB.out)⟩
              · rw [if_neg c7] at H
                have c7b0 : decide (x8_2 < t177) = false := decide_eq_false c7
                clear c7
                by_cases c19 : x5_2 = (a0.size : Int)
                · rw [if_pos c19] at H
                  have c19b0 : (x5_2 == (a0.size : Int)) = true := beq_iff_eq.mpr c19
                  have c19b1 : (x5_2 != (a0.size : Int)) = false := bne_eq_false_iff_eq.mpr c19
                  clear c19
                  replace H := Option.bind_eq_some_iff.mp H
                  obtain ⟨t180, A200, H⟩ := H
                  replace H : (if t180 = true then (some (x7_2, 0)) else (some (([] : List (S43)), 4))) = some (r1, r2) := H
                  have A20 := Aside0.mk A200
                  clear A200
                  by_cases c21 : t180 = true
                  · subst c21
                    have H1 : (some (x7_2, 0)) = some (r1, r2) := by rw [if_pos rfl] at H; exact H
                    clear H
                    have H := H1
                    clear H1
                    simp only [Option.some.injEq, Prod.mk.injEq] at H
                    obtain ⟨rfl, rfl⟩ := H
                    obtain ⟨Ao22, co22, eo22⟩ := Kd.R_slice HO_7.out
                    subst eo22
                    go_wp2_with (first | (go_at_call 14; (with_reducible refine (strongroomref11_May.calls k2 _ _ x7_2 true _ ?side1 ?side2 A20.out).mono ?_); (case side1 => repeat (first | exact (Kd.R_reads' HO_7.out).2.2 | (with_reducible refine Kd.C_alloc ?_ _) | (with_reducible refine Kd.C_drewN ?_ _) | (with_reducible refine Kd.C_drew ?_))); (case side2 => exact (Kd.R_reads' HO_7.out).2.1); rintro e w23 ⟨rfl, hb⟩; have n0_ := Aside0.mk (Kd.R_below (by (with_reducible repeat (first | apply Kd.R_alloc | apply Kd.R_drewN | apply Kd.R_drew)); exact HO_7.out) hb); have n1_ := Aside0.mk (below_step (by repeat (first | (with_reducible first | exact HB.out | apply below_alloc | apply pw_below_drewN | apply below_drew1) | exact HB.out)) hb); clear HO_7; clear HB; have HO_7 := n0_; have HB := n1_; clear n0_ n1_; (try clear hb); (try clear hb2); (try clear hk); (try clear hi)))
                    go_ret2
                    exact ⟨_, by first | rfl | (simp [errW_none, errW_some] <;> rfl) | (simp [*, errW_none, errW_some] <;> rfl), by (with_reducible repeat (first | apply Kd.R_alloc | apply Kd.R_drewN | apply Kd.R_drew)); exact HO_7.out, by repeat (first | (with_reducible first | exact HB.out | apply below_alloc | apply pw_below_drewN | apply below_drew1) | exact HB.out)⟩
                  · replace c21 := Bool.eq_false_iff.mpr c21
                    subst c21
                    have H1 : (some (([] : List (S43)), 4)) = some (r1, r2) := by rw [if_neg (show ¬ (false = true) by decide)] at H; exact H
                    clear H
                    have H := H1
                    clear H1
                    simp only [Option.some.injEq, Prod.mk.injEq] at H
                    obtain ⟨rfl, rfl⟩ := H
                    obtain ⟨Ao24, co24, eo24⟩ := Kd.R_slice HO_7.out
                    subst eo24
                    go_wp2_with (first | (go_at_call 14; (with_reducible refine (strongroomref11_May.calls k2 _ _ x7_2 false _ ?side1 ?side2 A20.out).mono ?_); (case side1 => repeat (first | exact (Kd.R_reads' HO_7.out).2.2 | (with_reducible refine Kd.C_alloc ?_ _) | (with_reducible refine Kd.C_drewN ?_ _) | (with_reducible refine Kd.C_drew ?_))); (case side2 => exact (Kd.R_reads' HO_7.out).2.1); rintro e w25 ⟨rfl, hb⟩; have n0_ := Aside0.mk (Kd.R_below (by (with_reducible repeat (first | apply Kd.R_alloc | apply Kd.R_drewN | apply Kd.R_drew)); exact HO_7.out) hb); have n1_ := Aside0.mk (below_step (by repeat (first | (with_reducible first | exact HB.out | apply below_alloc | apply pw_below_drewN | apply below_drew1) | exact HB.out)) hb); clear HO_7; clear HB; have HO_7 := n0_; have HB := n1_; clear n0_ n1_; (try clear hb); (try clear hb2); (try clear hk); (try clear hi)))
                    go_ret2
                    exact ⟨_, by first | rfl | (simp [errW_none, errW_some] <;> rfl) | (simp [*, errW_none, errW_some] <;> rfl), by first | exact Kd.R_nil _ _ _ _ _ | exact Kd.N_nil _ _ _ _ _ | exact Kd.V_nil _ _ _ _ _ | exact Kd.Q_nil _ _ _ _ _ | exact Kd.S_nil _ _ _ _ _, by repeat (first | (with_reducible first | exact HB.out | apply below_alloc | apply pw_below_drewN | apply below_drew1) | exact HB.out)⟩
                · rw [if_neg c19] at H
                  have c19b0 : (x5_2 == (a0.size : Int)) = false := beq_eq_false_iff_ne.mpr c19
                  have c19b1 : (x5_2 != (a0.size : Int)) = true := bne_iff_ne.mpr c19
                  simp only [Option.some.injEq, Prod.mk.injEq] at H
                  obtain ⟨rfl, rfl⟩ := H
                  go_wp2
                  go_ret2
                  exact ⟨_, by first | rfl | (simp [errW_none, errW_some] <;> rfl) | (simp [*, errW_none, errW_some] <;> rfl), by first | exact Kd.R_nil _ _ _ _ _ | exact Kd.N_nil _ _ _ _ _ | exact Kd.V_nil _ _ _ _ _ | exact Kd.Q_nil _ _ _ _ _ | exact Kd.S_nil _ _ _ _ _, by repeat (first | (with_reducible first | exact HB.out | apply below_alloc | apply pw_below_drewN | apply below_drew1) | exact HB.out)⟩

end Go.Proofs.Ytimcafohmahapaa.F

-- F68
namespace Go.Proofs.Ytimcafohmahapaa.F
open Go.RowKit Go.Proofs.YtimcafohmahapaaW.PrintWords Go.Proofs.YtimcafohmahapaaW.PrintLast Go.Proofs.YtimcafohmahapaaW.PrintMore
attribute [local go_sem] max2_int min2_int max_two min_two max_three min_three max_four min_four   -- for this text's walks alone
set_option linter.unusedVariables false
set_option linter.unusedSimpArgs false

/-! ### bits_Mul64: function 68 -/
def bits_Mul64.f (a0 : Int) (a1 : Int) : Option (Int × Int) := some (IntKind.u64.wrap ((IntKind.u64.wrap ((IntKind.u64.wrap ((a0 / 4294967296) * (a1 / 4294967296))) + ((IntKind.u64.wrap ((IntKind.u64.wrap ((a0 / 4294967296) * (Go.bits .and .u64 a1 4294967295))) + ((IntKind.u64.wrap ((Go.bits .and .u64 a0 4294967295) * (Go.bits .and .u64 a1 4294967295))) / 4294967296))) / 4294967296))) + ((IntKind.u64.wrap ((Go.bits .and .u64 (IntKind.u64.wrap ((IntKind.u64.wrap ((a0 / 4294967296) * (Go.bits .and .u64 a1 4294967295))) + ((IntKind.u64.wrap ((Go.bits .and .u64 a0 4294967295) * (Go.bits .and .u64 a1 4294967295))) / 4294967296))) 4294967295) + (IntKind.u64.wrap ((Go.bits .and .u64 a0 4294967295) * (a1 / 4294967296))))) / 4294967296)), IntKind.u64.wrap (a0 * a1))
set_option maxHeartbeats 8000000 in
set_option maxRecDepth 100000 in
theorem bits_Mul64.calls (a0 : Int) (a1 : Int) (r1 : Int) (r2 : Int) (w : World) (h : bits_Mul64.f a0 a1 = some (r1, r2)) :
    Calls Try.prog 68 #[.int .u64 a0, .int .u64 a1] w fun e w' => e = .returned (.tuple #[.int .u64 r1, .int .u64 r2]) ∧ Drawn0 w w' := by
  have H : (some (IntKind.u64.wrap ((IntKind.u64.wrap ((IntKind.u64.wrap ((a0 / 4294967296) * (a1 / 4294967296))) + ((IntKind.u64.wrap ((IntKind.u64.wrap ((a0 / 4294967296) * (Go.bits .and .u64 a1 4294967295))) + ((IntKind.u64.wrap ((Go.bits .and .u64 a0 4294967295) * (Go.bits .and .u64 a1 4294967295))) / 4294967296))) / 4294967296))) + ((IntKind.u64.wrap ((Go.bits .and .u64 (IntKind.u64.wrap ((IntKind.u64.wrap ((a0 / 4294967296) * (Go.bits .and .u64 a1 4294967295))) + ((IntKind.u64.wrap ((Go.bits .and .u64 a0 4294967295) * (Go.bits .and .u64 a1 4294967295))) / 4294967296))) 4294967295) + (IntKind.u64.wrap ((Go.bits .and .u64 a0 4294967295) * (a1 / 4294967296))))) / 4294967296)), IntKind.u64.wrap (a0 * a1))) = some (r1, r2) := h
  clear h
  simp only [Option.some.injEq, Prod.mk.injEq] at H
  obtain ⟨rfl, rfl⟩ := H
  go_enter Try.func68, Try.ntmps68
  go_wp2
  go_ret2
  exact ⟨by first | rfl | (simp; done) | (simp [*]; done), by repeat (first | exact Drawn0.refl _ | apply Drawn0.step)⟩

-- NOT PRINTED: function 69 (bits_Add64)

-- NOT PRINTED: function 61 (sha_aboveCube)

end Go.Proofs.Ytimcafohmahapaa.F

-- F71
namespace Go.Proofs.Ytimcafohmahapaa.F
open Go.RowKit Go.Proofs.YtimcafohmahapaaW.PrintWords Go.Proofs.YtimcafohmahapaaW.PrintLast Go.Proofs.YtimcafohmahapaaW.PrintMore
attribute [local go_sem] max2_int min2_int max_two min_two max_three min_three max_four min_four   -- for this text's walks alone
set_option linter.unusedVariables false
set_option linter.unusedSimpArgs false

end Go.Proofs.Ytimcafohmahapaa.F

-- F62
namespace Go.Proofs.Ytimcafohmahapaa.F
open Go.RowKit Go.Proofs.YtimcafohmahapaaW.PrintWords Go.Proofs.YtimcafohmahapaaW.PrintLast Go.Proofs.YtimcafohmahapaaW.PrintMore
attribute [local go_sem] max2_int min2_int max_two min_two max_three min_three max_four min_four   -- for this text's walks alone
set_option linter.unusedVariables false
set_option linter.unusedSimpArgs false

/-! ### sha_above: function 62 -/
def sha_above.f (a0 : Int) (a1 : Int) : Option (Bool) := (bits_Mul64.f a0 a0).bind fun bt116 => (if bt116.1 > a1 then (some true) else (if bt116.1 = a1 then (some (decide (bt116.2 > 0))) else (some false)))
set_option maxHeartbeats 8000000 in
set_option maxRecDepth 100000 in
theorem sha_above.calls (a0 : Int) (a1 : Int) (r : Bool) (w : World) (h : sha_above.f a0 a1 = some r) :
    Calls Try.prog 62 #[.int .u64 a0, .int .u64 a1] w fun e w' => e = .returned (.bool r) ∧ Drawn0 w w' := by
  have H : ((bits_Mul64.f a0 a0).bind fun bt116 => (if bt116.1 > a1 then (some true) else (if bt116.1 = a1 then (some (decide (bt116.2 > 0))) else (some false)))) = some r := h
  clear h
  replace H := Option.bind_eq_some_iff.mp H
  obtain ⟨⟨t116, t117⟩, A30, H⟩ := H
  replace H : (if t116 > a1 then (some true) else (if t116 = a1 then (some (decide (t117 > 0))) else (some false))) = some r := H
  have A3 := Aside0.mk A30
  clear A30
  by_cases c4 : t116 > a1
  · rw [if_pos c4] at H
    have c4b0 : decide (a1 < t116) = true := decide_eq_true c4
    clear c4
    obtain rfl := Option.some.inj H
    go_enter Try.func62, Try.ntmps62
    go_wp2_with (first | ((with_reducible refine gate_callee (f := 68) rfl ?_); refine goesL_ (some 10) rfl rfl Try.func68 (by kernel_rfl) rfl #[.int .u64 a0, .int .u64 a0] rfl (by (try simp only [List.map_toArray, List.map_cons, List.map_nil]); first | done | rfl | (simp only [List.length_drop, List.length_take]; rfl)) ?_; (with_reducible refine (bits_Mul64.calls a0 a0 t116 t117 _ A3.out).mono ?_); rintro e w' ⟨rfl, ⟨nd, rfl⟩⟩; refine ⟨_, rfl, ?_⟩))
    go_ret
    exact ⟨by first | rfl | (simp; done) | (simp [*]; done), by repeat (first | exact Drawn0.refl _ | apply Drawn0.step)⟩
  · rw [if_neg c4] at H
    have c4b0 : decide (a1 < t116) = false := decide_eq_false c4
    clear c4
    by_cases c5 : t116 = a1
    · rw [if_pos c5] at H
      have c5b0 : (t116 == a1) = true := beq_iff_eq.mpr c5
      have c5b1 : (t116 != a1) = false := bne_eq_false_iff_eq.mpr c5
      clear c5
      obtain rfl := Option.some.inj H
      go_enter Try.func62, Try.ntmps62
      go_wp2_with (first | ((with_reducible refine gate_callee (f := 68) rfl ?_); refine goesL_ (some 10) rfl rfl Try.func68 (by kernel_rfl) rfl #[.int .u64 a0, .int .u64 a0] rfl (by (try simp only [List.map_toArray, List.map_cons, List.map_nil]); first | done | rfl | (simp only [List.length_drop, List.length_take]; rfl)) ?_; (with_reducible refine (bits_Mul64.calls a0 a0 t116 t117 _ A3.out).mono ?_); rintro e w' ⟨rfl, ⟨nd, rfl⟩⟩; refine ⟨_, rfl, ?_⟩))
      go_ret
      exact ⟨by first | rfl | (simp; done) | (simp [*]; done), by repeat (first | exact Drawn0.refl _ | apply Drawn0.step)⟩
    · rw [if_neg c5] at H
      have c5b0 : (t116 == a1) = false := beq_eq_false_iff_ne.mpr c5
      have c5b1 : (t116 != a1) = true := bne_iff_ne.mpr c5
      obtain rfl := Option.some.inj H
      go_enter Try.func62, Try.ntmps62
      go_wp2_with (first | ((with_reducible refine gate_callee (f := 68) rfl ?_); refine goesL_ (some 10) rfl rfl Try.func68 (by kernel_rfl) rfl #[.int .u64 a0, .int .u64 a0] rfl (by (try simp only [List.map_toArray, List.map_cons, List.map_nil]); first | done | rfl | (simp only [List.length_drop, List.length_take]; rfl)) ?_; (with_reducible refine (bits_Mul64.calls a0 a0 t116 t117 _ A3.out).mono ?_); rintro e w' ⟨rfl, ⟨nd, rfl⟩⟩; refine ⟨_, rfl, ?_⟩))
      go_ret
      exact ⟨by first | rfl | (simp; done) | (simp [*]; done), by repeat (first | exact Drawn0.refl _ | apply Drawn0.step)⟩

-- NOT PRINTED: function 51 (sha_Root)

-- NOT PRINTED: function 50 (sha_roots)

end Go.Proofs.Ytimcafohmahapaa.F

-- F66
namespace Go.Proofs.Ytimcafohmahapaa.F
open Go.RowKit Go.Proofs.YtimcafohmahapaaW.PrintWords Go.Proofs.YtimcafohmahapaaW.PrintLast Go.Proofs.YtimcafohmahapaaW.PrintMore
attribute [local go_sem] max2_int min2_int max_two min_two max_three min_three max_four min_four   -- for this text's walks alone
set_option linter.unusedVariables false
set_option linter.unusedSimpArgs false

end Go.Proofs.Ytimcafohmahapaa.F

-- F65
namespace Go.Proofs.Ytimcafohmahapaa.F
open Go.RowKit Go.Proofs.YtimcafohmahapaaW.PrintWords Go.Proofs.YtimcafohmahapaaW.PrintLast Go.Proofs.YtimcafohmahapaaW.PrintMore
attribute [local go_sem] max2_int min2_int max_two min_two max_three min_three max_four min_four   -- for this text's walks alone
set_option linter.unusedVariables false
set_option linter.unusedSimpArgs false

end Go.Proofs.Ytimcafohmahapaa.F

-- ShaM
namespace Go.Proofs.Ytimcafohmahapaa.F
open Go Go.RowKit Go.Proofs.YtimcafohmahapaaW.PrintWords Go.Proofs.YtimcafohmahapaaW.PrintLast Go.Proofs.YtimcafohmahapaaW.PrintMore
set_option linter.unusedSimpArgs false
set_option linter.unusedVariables false
theorem mul64_f (x y : Int) (hx0 : 0 ≤ x) (hx : x < 18446744073709551616) (hy0 : 0 ≤ y) (hy : y < 18446744073709551616) :
    bits_Mul64.f x y = some (x * y / 18446744073709551616, x * y % 18446744073709551616) := by
  have hm := mul64_arith x y hx0 hx hy0 hy
  unfold bits_Mul64.f
  simp only [IntKind.wrap_u64, and_low32 x hx0 hx, and_low32 y hy0 hy]
  rw [and_low32 _ (by omega) (by omega), hm]
/-- is a number's square (or cube) no more than the bound's multiple? -/
def okL (p : Nat) (cube : Bool) (y : Nat) : Bool := match cube with
  | true => decide (y * y * y ≤ p * 79228162514264337593543950336)
  | false => decide (y * y ≤ p * 18446744073709551616)
/-- the search by halves -/
def rootL (p : Nat) (cube : Bool) : Nat → Nat → Nat
  | 0, x => x
  | n + 1, x => rootL p cube n (if okL p cube (x + 2 ^ n) = true then x + 2 ^ n else x)
theorem above_f (y p : Nat) (hy : y < 18446744073709551616) : sha_above.f y p = some (!okL p false y) := by
  unfold sha_above.f
  rw [mul64_f y y (by omega) (by omega) (by omega) (by omega)]
  simp only [Option.bind_some, okL]
  rw [show ((y : Int) * (y : Int)) = ((y * y : Nat) : Int) from by simp]
  generalize y * y = Y
  by_cases h1 : (Y : Int) / 18446744073709551616 > p
  · rw [if_pos h1]; simp; omega
  · rw [if_neg h1]
    by_cases h2 : (Y : Int) / 18446744073709551616 = p
    · rw [if_pos h2]; congr 1; rw [← decide_not]; exact decide_eq_decide.2 (by omega)
    · rw [if_neg h2]; simp; omega
/-- the cube in three words -/
theorem cube_words (y : Nat) (hy : y < 17592186044416) : ∃ hi lo top mid up low : Nat, y * y = hi * 18446744073709551616 + lo ∧ lo < 18446744073709551616 ∧ hi < 16777216 ∧
    hi * y = top * 18446744073709551616 + mid ∧ mid < 18446744073709551616 ∧ top < 16 ∧ lo * y = up * 18446744073709551616 + low ∧ low < 18446744073709551616 ∧ up < 17592186044416 ∧ y * y * y = (top * 18446744073709551616 + mid + up) * 18446744073709551616 + low := by
  have h1 : y * y ≤ 17592186044415 * 17592186044415 := Nat.mul_le_mul (by omega) (by omega)
  have h2 : y * y / 18446744073709551616 * y ≤ 16777215 * 17592186044415 := Nat.mul_le_mul (by omega) (by omega)
  have h3 : y * y % 18446744073709551616 * y ≤ 18446744073709551615 * 17592186044415 := Nat.mul_le_mul (by omega) (by omega)
  have h4 : y * y * y = y * y / 18446744073709551616 * y * 18446744073709551616 + y * y % 18446744073709551616 * y := by
    conv => lhs; rw [show y * y = y * y / 18446744073709551616 * 18446744073709551616 + y * y % 18446744073709551616 from by omega]
    rw [Nat.add_mul, Nat.mul_right_comm]
  refine ⟨y * y / 18446744073709551616, y * y % 18446744073709551616, y * y / 18446744073709551616 * y / 18446744073709551616, y * y / 18446744073709551616 * y % 18446744073709551616, y * y % 18446744073709551616 * y / 18446744073709551616, y * y % 18446744073709551616 * y % 18446744073709551616, by omega, by omega, by omega, ?_, ?_, ?_, ?_, ?_, ?_, ?_⟩
  all_goals (generalize y * y / 18446744073709551616 * y = u at *; generalize y * y % 18446744073709551616 * y = v at *)
  · omega
  · omega
  · omega
  · omega
  · omega
  · omega
  · rw [h4]; omega
/-- the greedy search stays below what its bits allow, and far numbers are never taken -/
theorem okL_far (p y : Nat) (hp : p < 4294967296) (hy : 8796093022208 ≤ y) : okL p true y = false := by
  have h1 : 8796093022208 * 8796093022208 * 8796093022208 ≤ y * y * y := Nat.mul_le_mul (Nat.mul_le_mul hy hy) hy
  simp only [okL]
  exact decide_eq_false (by omega)
end Go.Proofs.Ytimcafohmahapaa.F

-- Own
namespace Go.Proofs.Ytimcafohmahapaa.F
open Go Go.RowKit Go.Proofs.YtimcafohmahapaaW.PrintWords Go.Proofs.YtimcafohmahapaaW.PrintLast Go.Proofs.YtimcafohmahapaaW.PrintMore Go.Proofs.YtimcafohmahapaaR
theorem reads_of {A : Option Addr} {n : Nat} {l : List Int} {w : World} {k : IntKind} (h : Kd.C (Kd.int k) w A n l) : ReadsInt w k A n l :=
  Kd.reads_of_C (enc := Value.int k) (d := (0 : Int)) (h1 := fun _ => rfl) h
theorem C_of {A : Option Addr} {n : Nat} {l : List Int} {w : World} {k : IntKind} (h : ReadsInt w k A n l) : Kd.C (Kd.int k) w A n l :=
  Kd.C_of_reads (d := (0 : Int)) (h1 := fun _ => rfl) h
theorem own_head {w : World} {base : Nat} {e : TypeId} {v : Value} {k : IntKind} {l : List Int} {n : Nat} (h : w.ownsRow base e 1 v n (nums k l)) (hl : 0 < n) :
    ∃ g cap, v = .slice (some ⟨g, 0, none⟩) n cap ∧ base ≤ g ∧ g < w.heap.size ∧ n ≤ cap := by
  obtain ⟨_, ⟨_, h0⟩ | ⟨g, cap, cur, rfl, hb, hg, hc, _⟩⟩ := h
  · omega
  · exact ⟨g, cap, rfl, hb, (Array.getElem?_eq_some_iff.1 hg).1, hc⟩
/-- a row of the call's own may be read like one that came in -/
theorem own_C {w : World} {base n : Nat} {e : TypeId} {k : IntKind} {v : Value} {l : List Int} (h : w.ownsRow base e 1 v n (nums k l)) : ∃ A c, v = .slice A n c ∧ l.length = n ∧ n ≤ c ∧ Kd.C (Kd.int k) w A n l := by
  have hl : l.length = n := by have := h.1; simp [nums] at this; exact this
  obtain ⟨A, c, rfl, hr⟩ := own_reads h
  refine ⟨A, c, rfl, hl, own_le h, C_of hr⟩
theorem own_atN {W : World} {base g n cap : Nat} {e : TypeId} {k : IntKind} {xs : List Int} (h : W.ownsRow base e 1 (.slice (some ⟨g, 0, none⟩) n cap) n (nums k xs)) (i : Nat) (hi : i < n) :
    W.cell? ⟨g, i, none⟩ = some (.int k (xs.getD i 0)) ∧ W.frozen? ⟨g, i, none⟩ = false := by
  have := own_at h (i : Int) (by omega) (by omega)
  simpa [rd] using this
end Go.Proofs.Ytimcafohmahapaa.F

-- Upd
namespace Go.Proofs.Ytimcafohmahapaa.F
open Go Go.RowKit Go.Proofs.YtimcafohmahapaaW.PrintWords Go.Proofs.YtimcafohmahapaaW.PrintLast Go.Proofs.YtimcafohmahapaaW.PrintMore Go.Proofs.YtimcafohmahapaaR
set_option linter.unusedSimpArgs false
set_option linter.unusedVariables false
/-- all but the blocks of S stays -/
structure Upd (S : Nat → Prop) (w w' : World) : Prop where
  os : w'.os = w.os
  tape : w'.tape = w.tape
  output : w'.output = w.output
  size : w.heap.size ≤ w'.heap.size
  block : ∀ k, k < w.heap.size → ¬ S k → w'.heap[k]? = w.heap[k]?
theorem Upd.refl (S : Nat → Prop) (w : World) : Upd S w w := ⟨rfl, rfl, rfl, Nat.le_refl _, fun _ _ _ => rfl⟩
theorem Upd.of_grew {S : Nat → Prop} {w w' : World} (h : Grew w w') : Upd S w w' := ⟨h.os, h.tape, h.output, h.size, fun k hk _ => h.block k hk⟩
theorem Upd.then_ {S S2 : Nat → Prop} {a b c : World} (h : Upd S a b) (k : Upd S2 b c) (hs : ∀ i, i < a.heap.size → S2 i → S i) : Upd S a c :=
  ⟨k.os.trans h.os, k.tape.trans h.tape, k.output.trans h.output, Nat.le_trans h.size k.size, fun i hi hn => (k.block i (Nat.lt_of_lt_of_le hi h.size) (fun h2 => hn (hs i hi h2))).trans (h.block i hi hn)⟩
theorem Upd.trans {S : Nat → Prop} {a b c : World} (h : Upd S a b) (k : Upd S b c) : Upd S a c := h.then_ k fun _ _ h => h
theorem Upd.mono {S S2 : Nat → Prop} {a b : World} (h : Upd S a b) (hs : ∀ i, i < a.heap.size → S i → S2 i) : Upd S2 a b :=
  ⟨h.os, h.tape, h.output, h.size, fun i hi hn => h.block i hi (fun h2 => hn (hs i hi h2))⟩
theorem Upd.grew {S : Nat → Prop} {a b : World} (h : Upd S a b) (hs : ∀ i, i < a.heap.size → ¬ S i) : Grew a b := ⟨h.os, h.tape, h.output, h.size, fun i hi => h.block i hi (hs i hi)⟩
theorem Upd.below {S : Nat → Prop} {a b : World} {B : Nat} (h : Upd S a b) (hB : B ≤ a.heap.size) (hs : ∀ i, S i → B ≤ i) : Below B a b :=
  ⟨h.os, h.tape, h.output, h.size, fun i hi => h.block i (Nat.lt_of_lt_of_le hi hB) (fun h2 => by have := hs i h2; omega)⟩
theorem Upd.set {S : Nat → Prop} {a b : World} (h : Upd S a b) {p : Addr} (hp : S p.block ∨ a.heap.size ≤ p.block) (u : Value) : Upd S a (b.setCell p u) :=
  ⟨h.os, h.tape, h.output, by simp [World.setCell]; exact h.size, fun i hi hn => by
    rw [Below.heap_setCell b p u i (fun e => by subst e; rcases hp with hp | hp; exact hn hp; omega)]
    exact h.block i hi hn⟩
theorem Upd.kept {S : Nat → Prop} {a b : World} (h : Upd S a b) : Kept a b S := ⟨h.size, fun i hi hn => h.block i hi hn⟩
theorem Upd.blk {S : Nat → Prop} {a b : World} {g : Nat} {o : Obj} (h : Upd S a b) (hb : a.heap[g]? = some o) (hn : ¬ S g) : b.heap[g]? = some o := (h.block g (blk_lt hb) hn).trans hb
theorem Upd.cell {S : Nat → Prop} {a b : World} {p : Addr} {v : Value} (h : Upd S a b) (hb : a.cell? p = some v) (hn : ¬ S p.block) : b.cell? p = some v := cell_kept hb h.kept hn
theorem Upd.grown {S : Nat → Prop} {a b c : World} {row : Option Nat} (h : Upd S a b) (hg : b.grownBy c row) (hr : ∀ k, row = some k → S k ∨ a.heap.size ≤ k) : Upd S a c :=
  ⟨hg.os.trans h.os, hg.tape.trans h.tape, hg.output.trans h.output, Nat.le_trans h.size hg.size, fun i hi hn => (hg.block i (Nat.lt_of_lt_of_le hi h.size) (fun e => by rcases hr i e.symm with h2 | h2; exact hn h2; omega)).trans (h.block i hi hn)⟩
theorem Upd.own {S : Nat → Prop} {w w1 : World} {base : Nat} {e : TypeId} {size n : Nat} {v : Value} {xs : List Value} (hu : Upd S w w1) (h : w.ownsRow base e size v n xs) (hn : ∀ k, v.ownBlock = some k → ¬ S k) : w1.ownsRow base e size v n xs :=
  own_move h fun k hk => hu.block k (own_lt h k hk) (hn k hk)
/-- what a call comes to: what it returns, and which blocks it may change -/
def Does (S : Nat → Prop) (w : World) (V : World → Value → Prop) (e : Ending) (w' : World) : Prop := ∃ v, e = .returned v ∧ V w' v ∧ Upd S w w'
/-- a block known whole: its cells -/
def Blk (w : World) (g : Nat) (t : TypeId) (cs : List Value) : Prop := w.heap[g]? = some (.cells cs.toArray t (0, 0))
theorem Blk.lt {w : World} {g : Nat} {t : TypeId} {cs : List Value} (h : Blk w g t cs) : g < w.heap.size := blk_lt h
theorem Blk.at_ {w : World} {g : Nat} {t : TypeId} {cs : List Value} (h : Blk w g t cs) (i : Nat) : w.cell? ⟨g, i, none⟩ = cs[i]? := by
  rw [blk_cell h]; simp
theorem Blk.fz {w : World} {g : Nat} {t : TypeId} {cs : List Value} (h : Blk w g t cs) (i : Nat) : w.frozen? ⟨g, i, none⟩ = false := blk_frozen h i
theorem Blk.set {w : World} {g : Nat} {t : TypeId} {cs : List Value} (h : Blk w g t cs) (i : Nat) (u : Value) : Blk (w.setCell ⟨g, i, none⟩ u) g t (cs.set i u) := by
  have := blk_set h i u
  unfold Blk
  rw [this]; simp
theorem Blk.far {w : World} {g : Nat} {t : TypeId} {cs : List Value} (h : Blk w g t cs) {p : Addr} (hp : g ≠ p.block) (u : Value) : Blk (w.setCell p u) g t cs := blk_far h hp u
theorem Blk.upd {S : Nat → Prop} {w w' : World} {g : Nat} {t : TypeId} {cs : List Value} (h : Blk w g t cs) (hu : Upd S w w') (hn : ¬ S g) : Blk w' g t cs := hu.blk h hn
theorem Blk.grew {w w' : World} {g : Nat} {t : TypeId} {cs : List Value} (h : Blk w g t cs) (hu : Grew w w') : Blk w' g t cs := blk_below h hu
theorem Blk.new (w : World) (t : TypeId) (cs : List Value) : Blk (w.alloc (.cells cs.toArray t)) w.heap.size t cs := blk_new w _
/-- a block of numbers reads as a row -/
theorem Blk.own {w : World} {base g : Nat} {t : TypeId} {k : IntKind} {xs : List Int} {n : Nat} (h : Blk w g t (nums k xs)) (hb : base ≤ g) (hn : n ≤ xs.length) (hm : xs.length ≤ 9223372036854775807) : w.ownsRow base t 1 (.slice (some ⟨g, 0, none⟩) n xs.length) n (nums k (xs.take n)) := by
  refine ⟨by simp [nums, Nat.min_eq_left hn], .inr ⟨g, xs.length, (nums k xs).toArray, rfl, hb, h, hn, by simpa [maxLen] using hm, by simp [nums], ?_⟩⟩
  simp [nums, List.map_take]
theorem Blk.reads {w : World} {g : Nat} {t : TypeId} {k : IntKind} {xs : List Int} (h : Blk w g t (nums k xs)) (hm : xs.length ≤ 9223372036854775807) : ReadsInt w k (some ⟨g, 0, none⟩) xs.length xs :=
  ⟨rfl, hm, fun _ => ⟨_, rfl, fun i hi => by rw [add_plain, h.at_]; simp [nums, hi, List.getD_eq_getElem?_getD]⟩⟩
theorem Blk.C {w : World} {g : Nat} {t : TypeId} {k : IntKind} {xs : List Int} (h : Blk w g t (nums k xs)) (hm : xs.length ≤ 9223372036854775807) : Kd.C (Kd.int k) w (some ⟨g, 0, none⟩) xs.length xs := C_of (h.reads hm)
/-- what an append leaves: a row of one's own, in the block it had or in a new one -/
def Appended {α : Type} (enc : α → Value) (base : Nat) (e : TypeId) (v : Value) (xs : List α) (W : World) (v1 : Value) (w1 : World) : Prop :=
  w1.ownsRow base e 1 v1 xs.length (encs enc xs) ∧ W.grownBy w1 v.ownBlock ∧ (v1.ownBlock = v.ownBlock ∨ v1.ownBlock = some W.heap.size)
theorem app_row {P : Program} {α : Type} (enc : α → Value) (d : α) (h1 : ∀ x : α, (enc x).oneCell' = true) (W : World) (base : Nat) (t e ty : TypeId) (z : Value) (bytes : Nat)
    (ht : P.underlying t = some (.slice e)) (hinfo : (P.info? e).map (fun i => (i.zero, i.size, i.bytes)) = some (some z, 1, bytes)) (hz : z.cells.size = 1) (hb0 : 0 < bytes)
    (v : Value) (xs ys : List α) (A : Option Addr) (m c : Nat) (HO : W.ownsRow base e 1 v xs.length (encs enc xs)) (HR : ReadsOf enc d W A m ys) (hbase : base ≤ W.heap.size) (hl : (xs.length + m) * bytes ≤ 140737488355328) :
    ∃ v1 w1, (Builtin.append_ #[t, t] ty #[v, .slice A m c]).run P W = .ok v1 w1 ∧ Appended enc base e v (xs ++ ys) W v1 w1 := by
  obtain ⟨i0, hi, hzz⟩ := Option.map_eq_some_iff.1 hinfo
  simp only [Prod.mk.injEq] at hzz
  obtain ⟨hz0, hz1, hz2⟩ := hzz
  have hm : ys.length = m := HR.1
  have hlen : xs.length + m ≤ 140737488355328 := Nat.le_trans (Nat.le_mul_of_pos_right _ hb0) hl
  rcases Nat.eq_zero_or_pos m with h0 | hpos
  · subst h0
    obtain rfl : ys = [] := List.eq_nil_of_length_eq_zero hm
    refine ⟨v, W, ?_, by simpa using HO, World.grownBy.refl W _, .inl rfl⟩
    have hld : ∀ ad : Addr, (loadCells ad 0).run P W = .ok #[] W := fun ad => by simpa using run_loadCells_list (P := P) W ad [] (by simp)
    rcases HO.2 with ⟨rfl, hn⟩ | ⟨g, cap, cur, rfl, _, _, hnc, _⟩
    · cases A <;> simp [Builtin.append_, run_underlying ht, sizeOf, typeInfo, hi, Builtin.lenOf, Builtin.firstCells, hld]
    · cases A <;> simp [Builtin.append_, run_underlying ht, sizeOf, typeInfo, hi, Builtin.lenOf, Builtin.firstCells, hnc, storeCells, hld]
  · obtain ⟨ad, rfl, hc⟩ := HR.2.2 hpos
    have hcells : ∀ j u, (encs enc ys)[j]? = some u → W.cell? (ad.add j) = some u := by
      intro j u hu
      have hj : j < ys.length := by
        rcases Nat.lt_or_ge j ys.length with h | h
        · exact h
        · simp [encs, List.getElem?_eq_none h] at hu
      rw [encs_get (d := d) ys j hj] at hu
      rw [← hu]
      exact hc j (by omega)
    obtain ⟨v1, w1, hr, h2, h3, _, h5⟩ := run_append_own_at (P := P) W base t ty e i0 z 1 bytes ht hi hz0 hz1 hz2 hz (by omega) v xs.length (encs enc xs) HO ad m c (encs enc ys) (by simp [encs, hm]) hcells
      (by intro u hu; simp only [encs, List.mem_map] at hu; obtain ⟨q, _, rfl⟩ := hu; exact h1 q) (by simp only [maxLen]; omega) hl hbase
    exact ⟨v1, w1, hr, by simpa [encs, hm] using h2, h3, h5⟩
theorem app_num {P : Program} {k : IntKind} (W : World) (base : Nat) (t e ty : TypeId) (bytes : Nat)
    (ht : P.underlying t = some (.slice e)) (hinfo : (P.info? e).map (fun i => (i.zero, i.size, i.bytes)) = some (some (.int k 0), 1, bytes)) (hb0 : 0 < bytes)
    (v : Value) (xs ys : List Int) (A : Option Addr) (m c : Nat) (HO : W.ownsRow base e 1 v xs.length (nums k xs)) (HR : ReadsInt W k A m ys) (hbase : base ≤ W.heap.size) (hl : (xs.length + m) * bytes ≤ 140737488355328) :
    ∃ v1 w1, (Builtin.append_ #[t, t] ty #[v, .slice A m c]).run P W = .ok v1 w1 ∧ Appended (Value.int k) base e v (xs ++ ys) W v1 w1 :=
  app_row (Value.int k) 0 (fun _ => rfl) W base t e ty (.int k 0) bytes ht hinfo rfl hb0 v xs ys A m c HO HR hbase hl
theorem Appended.upd {α : Type} {enc : α → Value} {base : Nat} {e : TypeId} {v v1 : Value} {xs : List α} {W w1 : World} (h : Appended enc base e v xs W v1 w1) : Upd (fun k => v.ownBlock = some k) W w1 :=
  (Upd.refl _ W).grown h.2.1 fun k hk => .inl hk
/-- a row of one's own, cut short -/
theorem own_take {w : World} {base n m cap size : Nat} {e : TypeId} {A : Option Addr} {xs : List Value} (h : w.ownsRow base e size (.slice A n cap) n xs) (hm : m ≤ n) : w.ownsRow base e size (.slice A m cap) m (xs.take (m * size)) := by
  obtain ⟨hl, h⟩ := h
  refine ⟨by rw [List.length_take, hl]; exact Nat.min_eq_left (Nat.mul_le_mul_right _ hm), ?_⟩
  rcases h with ⟨hv, hn⟩ | ⟨g, cap', cur, hv, hb, hh, hnc, hcm, hcs, htake⟩
  · injection hv with h1 h2 h3
    subst h1 h3
    obtain rfl : m = 0 := by omega
    exact .inl ⟨rfl, rfl⟩
  · injection hv with h1 h2 h3
    subst h1 h3
    refine .inr ⟨g, cap, cur, rfl, hb, hh, by omega, hcm, hcs, ?_⟩
    rw [← htake, List.take_take, Nat.min_eq_left (Nat.mul_le_mul_right _ hm)]
/-- a slice of one element in a block of its own, which is not the row that is written -/
def One (e : TypeId) (x : Value) (vb : Value) : World → Value → Prop := fun w v => ∃ g1, v = .slice (some ⟨g1, 0, none⟩) 1 1 ∧ Blk w g1 e [x] ∧ some g1 ≠ vb.ownBlock
/-- the row behind an append -/
def AppV (base : Nat) (e : TypeId) (cs : List Value) (n : Nat) (vb : Value) (N : Nat) : World → Value → Prop := fun w v => w.ownsRow base e 1 v n cs ∧ (v.ownBlock = vb.ownBlock ∨ ∃ k, v.ownBlock = some k ∧ N ≤ k)
theorem eval_tmp {a : Act} {t : Tmp} {v : Value} (h : a.tmps[t]?.getD undef = v) : a.eval (.tmp t) = v := by simpa [Act.eval] using h
/-- append as one operation, by the equation of its run -/
theorem wp_app {P : Program} {o : Oper} {a : Act} {w : World} {K : Act → World → Prop} {Q : Exit → Act → World → Prop} (s x : Operand) (t : TypeId)
    (ho : o.op = .call { callee := .builtin .append, args := #[s, x], argTypes := #[t, t] }) {v y : Value} (hs : a.eval s = v) (hx : a.eval x = y) {v1 : Value} {w1 : World}
    (hr : (Builtin.append_ #[t, t] o.type #[v, y]).run P w = .ok v1 w1) (h : K (a.put o.dst v1) w1) : Oper.wp P o a w K Q := by
  unfold Oper.wp execOp
  simp only [ho, resolve, invoke, builtin, Sem.run_bind, Sem.run_pure, Result.andThen_ok, List.map_toArray, List.map_cons, List.map_nil, hs, hx, hr]
  exact h
theorem wpList_app {P : Program} {ops : Array Oper} {rest : List Oper} {o : Oper} {a : Act} {w : World} {Q : Exit → Act → World → Prop} (hgd : o.guard = none) (s x : Operand) (t : TypeId)
    (ho : o.op = .call { callee := .builtin .append, args := #[s, x], argTypes := #[t, t] }) {v y : Value} (hs : a.eval s = v) (hx : a.eval x = y) {v1 : Value} {w1 : World}
    (hr : (Builtin.append_ #[t, t] o.type #[v, y]).run P w = .ok v1 w1) (h : wpList P ops Q rest (a.put o.dst v1) w1) : wpList P ops Q (o :: rest) a w :=
  wpList_plain hgd fun K hK => wp_app s x t ho hs hx hr (hK _ _ h)
theorem Upd.of_grown {w w' : World} {row : Option Nat} (h : w.grownBy w' row) : Upd (fun k => row = some k) w w' := (Upd.refl _ w).grown h fun k hk => .inl hk
theorem add_block (a : Addr) (j : Nat) : (a.add j).block = a.block := by unfold Addr.add; split <;> rfl
/-- a row that is read stays, if what changes lies elsewhere -/
theorem C_upd {S : Nat → Prop} {w w' : World} {k : IntKind} {A : Option Addr} {n : Nat} {xs : List Int} (h : Kd.C (Kd.int k) w A n xs) (hu : Upd S w w') (hA : ∀ ad, A = some ad → ¬ S ad.block) : Kd.C (Kd.int k) w' A n xs := by
  obtain ⟨h1, h2, h3⟩ := reads_of h
  refine C_of ⟨h1, h2, fun hp => ?_⟩
  obtain ⟨ad, rfl, hc⟩ := h3 hp
  exact ⟨ad, rfl, fun j hj => hu.cell (hc j hj) (by rw [add_block]; exact hA ad rfl)⟩
end Go.Proofs.Ytimcafohmahapaa.F

-- F57
namespace Go.Proofs.Ytimcafohmahapaa.F
open Go.RowKit Go.Proofs.YtimcafohmahapaaW.PrintWords Go.Proofs.YtimcafohmahapaaW.PrintLast Go.Proofs.YtimcafohmahapaaW.PrintMore
attribute [local go_sem] max2_int min2_int max_two min_two max_three min_three max_four min_four   -- for this text's walks alone
set_option linter.unusedVariables false
set_option linter.unusedSimpArgs false

end Go.Proofs.Ytimcafohmahapaa.F

-- ShaP
namespace Go.Proofs.Ytimcafohmahapaa.F
open Go Go.RowKit Go.Proofs.YtimcafohmahapaaW.PrintWords Go.Proofs.YtimcafohmahapaaW.PrintLast Go.Proofs.YtimcafohmahapaaW.PrintMore Go.Proofs.YtimcafohmahapaaR
set_option linter.unusedSimpArgs false
set_option linter.unusedVariables false
set_option maxRecDepth 100000
theorem above_c (y p : Nat) (hy : y < 18446744073709551616) (w : World) :
    Calls Try.prog 62 #[.int .u64 y, .int .u64 p] w (Tells w (Is (.bool (!okL p false y)))) :=
  tells_is ((sha_above.calls y p _ w (above_f y p hy)).mono fun _ _ ⟨h, k⟩ => ⟨h, drawn_below k⟩)
theorem mul64_c (x y : Nat) (hx : x < 18446744073709551616) (hy : y < 18446744073709551616) (w : World) :
    Calls Try.prog 68 #[.int .u64 x, .int .u64 y] w (Tells w (Is (.tuple #[.int .u64 ((x * y / 18446744073709551616 : Nat) : Int), .int .u64 ((x * y % 18446744073709551616 : Nat) : Int)]))) :=
  tells_is ((bits_Mul64.calls x y ((x * y / 18446744073709551616 : Nat) : Int) ((x * y % 18446744073709551616 : Nat) : Int) w (by rw [mul64_f x y (by omega) (by omega) (by omega) (by omega)]; simp)).mono fun _ _ ⟨h, k⟩ => ⟨h, drawn_below k⟩)
theorem add64_run (x y : Nat) (w : World) :
    (callFunc 69 #[.int .u64 x, .int .u64 y, .int .u64 0]).run Try.prog w =
      .ok (.value (.tuple #[.int .u64 (((x + y) % 18446744073709551616 : Nat) : Int), .int .u64 (((x + y) / 18446744073709551616 : Nat) : Int)])) w := by
  rw [run_callFunc_extern Try.func69 (by kernel_rfl) (by kernel_rfl) (by kernel_rfl) (e := add64Entry) (by kernel_rfl), run_add64 x y 0 (by omega) (by omega) (by omega) (by omega)]
  simp only [Result.andThen]
  congr 5 <;> omega
theorem aboveCube_plain (y p : Nat) (hy : y < 17592186044416) (hp : p < 4294967296) : ∃ hi lo top mid up low s c t : Nat, t < 32 ∧ s < 18446744073709551616 ∧ c < 2 ∧ low < 18446744073709551616 ∧ hi < 16777216 ∧ lo < 18446744073709551616 ∧
    y * y / 18446744073709551616 = hi ∧ y * y % 18446744073709551616 = lo ∧ hi * y / 18446744073709551616 = top ∧ hi * y % 18446744073709551616 = mid ∧ lo * y / 18446744073709551616 = up ∧ lo * y % 18446744073709551616 = low ∧
    (mid + up) % 18446744073709551616 = s ∧ (mid + up) / 18446744073709551616 = c ∧ top + c = t ∧ top < 16 ∧
    (okL p true y = false ↔ (0 < t ∨ (t = 0 ∧ (p * 4294967296 < s ∨ (s = p * 4294967296 ∧ 0 < low))))) := by
  obtain ⟨hi, lo, top, mid, up, low, e1, b1, b2, e2, b3, b6, e3, b4, b5, e4⟩ := cube_words y hy
  refine ⟨hi, lo, top, mid, up, low, _, _, _, ?_, ?_, ?_, b4, b2, b1, by omega, by omega, by omega, by omega, by omega, by omega, rfl, rfl, rfl, b6, ?_⟩
  · omega
  · omega
  · omega
  · simp only [okL]; rw [e4]
    rw [decide_eq_false_iff_not]
    clear e1 e2 e3 e4
    omega
set_option maxHeartbeats 1000000 in
theorem aboveCube_c (y p : Nat) (hy : y < 17592186044416) (hp : p < 4294967296) (w : World) :
    Calls Try.prog 61 #[.int .u64 y, .int .u64 p] w (Tells w (Is (.bool (!okL p true y)))) := by
  obtain ⟨hi, lo, top, mid, up, low, s, c, t, ht, hs, hc, hlow, hhi, hlo, e1, e2, e3, e4, e5, e6, e7, e8, e9, b6, hK⟩ := aboveCube_plain y p hy hp
  have m1 := fun w => mul64_c y y (by omega) (by omega) w
  have m2 := fun w => mul64_c hi y (by omega) (by omega) w
  have m3 := fun w => mul64_c lo y (by omega) (by omega) w
  have ad := fun w => add64_run mid up w
  rw [e1, e2] at m1
  rw [e3, e4] at m2
  rw [e5, e6] at m3
  rw [e7, e8] at ad
  have M1 := Lib.hid m1
  have M2 := Lib.hid m2
  have M3 := Lib.hid m3
  obtain ⟨b, hb⟩ : ∃ b, b = okL p true y := ⟨_, rfl⟩
  rw [← hb] at hK ⊢
  have HK := Lib.hid hK
  have q1 : (p : Int) / 4294967296 = 0 := by omega
  have q2 : IntKind.u64.wrap ((top : Int) + (c : Int)) = (t : Int) := by rw [IntWalk.u64_in _ (by omega)]; omega
  obtain ⟨q, hq⟩ : ∃ q : Nat, q = p * 4294967296 := ⟨_, rfl⟩
  have q3 : IntKind.u64.wrap ((p : Int) * 4294967296) = (q : Int) := by rw [IntWalk.u64_in _ (by omega)]; omega
  have HQ := Lib.hid hq
  clear m1 m2 m3 e1 e2 e3 e4 e5 e6 e7 e8 e9 hK hb hq
  go_enter Try.func61, Try.ntmps61
  go_wp2_with fail
  refine (M1.out _).mono ?_
  rintro e w1 ⟨_, rfl, rfl, hg1⟩
  go_wp2_with fail
  refine (M2.out _).mono ?_
  rintro e w2 ⟨_, rfl, rfl, hg2⟩
  go_wp2_with fail
  refine (M3.out _).mono ?_
  rintro e w3 ⟨_, rfl, rfl, hg3⟩
  go_wp2_with (simp only [ad])
  all_goals go_ret
  all_goals refine ⟨_, rfl, ?_, hg1.trans (hg2.trans hg3)⟩
  all_goals show Value.bool _ = Value.bool _
  all_goals (have h := HK.out; have h2 := HQ.out; clear M1 M2 M3 ad HK HQ q1 q2 q3)
  all_goals congr 1
  all_goals (cases b <;> simp at h ⊢ <;> omega)
theorem pow_small (m : Nat) (hm : m < 49) : (2 : Nat) ^ m < 562949953421312 := by
  have h1 : (2 : Nat) ^ m ≤ 2 ^ 48 := Nat.pow_le_pow_right (by omega) (by omega)
  simp at h1; omega
theorem pow_u64 (m : Nat) (hm : m < 49) : IntKind.u64.wrap ((2 : Int) ^ m) = ((2 ^ m : Nat) : Int) := by
  have h := pow_small m hm
  have e : (2 : Int) ^ m = ((2 ^ m : Nat) : Int) := by push_cast; rfl
  rw [e]
  generalize (2 : Nat) ^ m = k at *
  exact IntWalk.u64_in _ (by omega)
theorem or_step (x m : Nat) (hm : m < 49) (hx : x % 2 ^ (m + 1) = 0) (hb : x + 2 ^ (m + 1) ≤ 2 ^ 49) : Go.bits .or .u64 (x : Int) ((2 ^ m : Nat) : Int) = ((x + 2 ^ m : Nat) : Int) := by
  have h1 : (2 : Nat) ^ m < 2 ^ (m + 1) := Nat.pow_lt_pow_right (by omega) (by omega)
  have h3 : x + 2 ^ (m + 1) ≤ 562949953421312 := hb
  have h := (bits_nat .u64 64 (Nat.le_refl _) (fun n h0 h3 => by rw [IntKind.wrap_u64]; omega) x (2 ^ m) (by show x < 18446744073709551616; omega) (by show 2 ^ m < 18446744073709551616; omega)).2
  rw [h]
  obtain ⟨q, rfl⟩ : ∃ q, x = 2 ^ (m + 1) * q := ⟨x / 2 ^ (m + 1), by have := Nat.div_add_mod x (2 ^ (m + 1)); omega⟩
  rw [Nat.two_pow_add_eq_or_of_lt h1]
theorem step_facts (x m : Nat) (hm : m < 49) (hx : x % 2 ^ (m + 1) = 0) (hb : x + 2 ^ (m + 1) ≤ 2 ^ 49) : x % 2 ^ m = 0 ∧ (x + 2 ^ m) % 2 ^ m = 0 ∧ x + 2 ^ m ≤ 2 ^ 49 ∧ x + 2 ^ m + 2 ^ m ≤ 2 ^ 49 ∧ x + 2 ^ m < 562949953421312 := by
  have h1 : (2 : Nat) ^ (m + 1) = 2 * 2 ^ m := by rw [Nat.pow_succ]; omega
  have h2 : (2 : Nat) ^ 49 = 562949953421312 := rfl
  have h3 : x % 2 ^ m = 0 := by
    rw [h1] at hx
    have := Nat.mod_mul_left_mod x 2 (2 ^ m)
    rw [hx] at this; simpa using this.symm
  have h4 : 0 < 2 ^ m := Nat.pos_of_ne_zero (by simp)
  refine ⟨h3, by rw [Nat.add_mod_right]; exact h3, by omega, by omega, by omega⟩
set_option maxHeartbeats 1000000 in
theorem root_c (p : Nat) (hp : p < 4294967296) (cube : Bool) (w : World) :
    Calls Try.prog 51 #[.int .u32 p, .bool cube] w (Tells w (Is (.int .u32 ((rootL p cube 49 0 % 4294967296 : Nat) : Int)))) := by
  obtain ⟨R, hR⟩ : ∃ R, R = rootL p cube 49 0 := ⟨_, rfl⟩
  rw [← hR]
  have HR := Lib.hid hR
  clear hR
  go_enter Try.func51, Try.ntmps51
  go_wp2_with fail
  go_loopw [5, 8] (fun xv iv wr => ∃ (i n x : Nat), iv = .int .i64 (i : Int) ∧ i + n = 49 ∧ xv = .int .u64 (x : Int) ∧ x % 2 ^ n = 0 ∧ x + 2 ^ n ≤ 2 ^ 49 ∧ rootL p cube n x = R ∧ Grew w wr) (fun _ iv _ => 49 - (intOf iv).toNat)
  case atStart => exact ⟨0, 49, 0, rfl, rfl, rfl, rfl, by simp, HR.out.symm, Grew.refl _⟩
  case round =>
    obtain ⟨i, n, x, rfl, hin, rfl, hx, hb, hr, hg⟩ := hrel
    rcases n with _ | m
    · have d1 : decide ((i : Int) < 49) = false := decide_eq_false (by omega)
      have hxR : x = R := hr
      subst hxR
      have hx4 : IntKind.u32.wrap (x : Int) = ((x % 4294967296 : Nat) : Int) := by rw [IntKind.wrap_u32]; omega
      clear hx hb hr hin
      go_wp2_with fail
      go_ret
      exact ⟨_, rfl, by show Value.int _ _ = Value.int _ _; simp, hg⟩
    · have d1 : decide ((i : Int) < 49) = true := decide_eq_true (by omega)
      obtain ⟨f1, f2, f3, f4, f5⟩ := step_facts x m (by omega) hx hb
      have e1 : IntKind.i64.wrap (48 - (i : Int)) = (m : Int) := by rw [IntWalk.i64_in _ (by omega)]; omega
      have e3 := or_step x m (by omega) hx hb
      obtain ⟨k2, hk2⟩ : ∃ k2 : Nat, k2 = 2 ^ m := ⟨_, rfl⟩
      have e2 := pow_u64 m (by omega)
      rw [← hk2] at e2
      rw [← hk2] at e3
      have hi : i < 49 := by omega
      obtain ⟨y, hy⟩ : ∃ y, y = x + k2 := ⟨_, rfl⟩
      have hr2 : rootL p cube m (if okL p cube y = true then y else x) = R := by rw [hy, hk2]; exact hr
      have hyb : y < 562949953421312 := by rw [hy, hk2]; exact f5
      have F := Lib.hid (And.intro f1 (And.intro f2 (And.intro f3 (And.intro f4 f5))))
      have HY := Lib.hid (show y = x + 2 ^ m from by rw [hy, hk2])
      rw [← hy] at e3
      clear f1 f2 f3 f4 f5 hx hb hr hk2 hy
      cases cube
      · go_wp2_with fail
        refine (above_c y p (by omega) wr).mono ?_
        rintro e w2 ⟨_, rfl, rfl, hg2⟩
        cases hok : okL p false y
        all_goals (rw [hok] at hr2; simp only [Bool.not_true, Bool.not_false])
        all_goals clear hok
        · have hr3 : rootL p false m x = R := hr2
          clear hr2
          go_wp2_with fail
          go_roundw
          case rel => exact ⟨i + 1, m, x, by go_num, by omega, rfl, F.out.1, F.out.2.2.1, hr3, hg.trans hg2⟩
          case measure => simp [intOf]; omega
        · have hr3 : rootL p false m y = R := hr2
          clear hr2
          go_wp2_with fail
          go_roundw
          case rel => exact ⟨i + 1, m, y, by go_num, by omega, rfl, by rw [HY.out]; exact F.out.2.1, by rw [HY.out]; exact F.out.2.2.2.1, hr3, hg.trans hg2⟩
          case measure => simp [intOf]; omega

      · by_cases hcy : y < 17592186044416
        · have d2 : decide ((y : Int) < 17592186044416) = true := decide_eq_true (by omega)
          go_wp2_with fail
          refine (aboveCube_c y p hcy hp wr).mono ?_
          rintro e w2 ⟨_, rfl, rfl, hg2⟩
          cases hok : okL p true y
          all_goals (rw [hok] at hr2; simp only [Bool.not_true, Bool.not_false])
          all_goals clear hok
          · have hr3 : rootL p true m x = R := hr2
            clear hr2
            go_wp2_with fail
            go_roundw
            case rel => exact ⟨i + 1, m, x, by go_num, by omega, rfl, F.out.1, F.out.2.2.1, hr3, hg.trans hg2⟩
            case measure => simp [intOf]; omega
          · have hr3 : rootL p true m y = R := hr2
            clear hr2
            go_wp2_with fail
            go_roundw
            case rel => exact ⟨i + 1, m, y, by go_num, by omega, rfl, by rw [HY.out]; exact F.out.2.1, by rw [HY.out]; exact F.out.2.2.2.1, hr3, hg.trans hg2⟩
            case measure => simp [intOf]; omega

        · have d2 : decide ((y : Int) < 17592186044416) = false := decide_eq_false (by omega)
          have hr3 : rootL p true m x = R := by rw [okL_far p y hp (by omega)] at hr2; exact hr2
          clear hr2
          go_wp2_with fail
          go_roundw
          case rel => exact ⟨i + 1, m, x, by go_num, by omega, rfl, F.out.1, F.out.2.2.1, hr3, hg⟩
          case measure => simp [intOf]; omega
end Go.Proofs.Ytimcafohmahapaa.F

-- F70
namespace Go.Proofs.Ytimcafohmahapaa.F
open Go.RowKit Go.Proofs.YtimcafohmahapaaW.PrintWords Go.Proofs.YtimcafohmahapaaW.PrintLast Go.Proofs.YtimcafohmahapaaW.PrintMore
attribute [local go_sem] max2_int min2_int max_two min_two max_three min_three max_four min_four   -- for this text's walks alone
set_option linter.unusedVariables false
set_option linter.unusedSimpArgs false

/-! ### bits_RotateLeft32: function 70 -/
def bits_RotateLeft32.f (a0 : Int) (a1 : Int) : Option (Int) := if 0 ≤ (Go.bits .and .u64 (IntKind.u64.wrap (a1)) 31) then (if 0 ≤ (IntKind.u64.wrap (32 - (Go.bits .and .u64 (IntKind.u64.wrap (a1)) 31))) then (some (Go.bits .or .u32 (shl .u32 a0 (Go.bits .and .u64 (IntKind.u64.wrap (a1)) 31)) (shr .u32 a0 (IntKind.u64.wrap (32 - (Go.bits .and .u64 (IntKind.u64.wrap (a1)) 31)))))) else (none)) else (none)
set_option maxHeartbeats 8000000 in
set_option maxRecDepth 100000 in
theorem bits_RotateLeft32.calls (a0 : Int) (a1 : Int) (r : Int) (w : World) (h : bits_RotateLeft32.f a0 a1 = some r) :
    Calls Try.prog 70 #[.int .u32 a0, .int .i64 a1] w fun e w' => e = .returned (.int .u32 r) ∧ Drawn0 w w' := by
  have H : (if 0 ≤ (Go.bits .and .u64 (IntKind.u64.wrap (a1)) 31) then (if 0 ≤ (IntKind.u64.wrap (32 - (Go.bits .and .u64 (IntKind.u64.wrap (a1)) 31))) then (some (Go.bits .or .u32 (shl .u32 a0 (Go.bits .and .u64 (IntKind.u64.wrap (a1)) 31)) (shr .u32 a0 (IntKind.u64.wrap (32 - (Go.bits .and .u64 (IntKind.u64.wrap (a1)) 31)))))) else (none)) else (none)) = some r := h
  clear h
  obtain ⟨ji3, hji3⟩ : ∃ j_ : Int, (Go.bits .and .u64 (IntKind.u64.wrap (a1)) 31) = j_ := ⟨_, rfl⟩
  replace H : (if 0 ≤ (ji3) then (if 0 ≤ (IntKind.u64.wrap (32 - (ji3))) then (some (Go.bits .or .u32 (shl .u32 a0 (ji3)) (shr .u32 a0 (IntKind.u64.wrap (32 - (ji3)))))) else (none)) else (none)) = some r := by first | (rw [hji3] at H; exact H) | (simp only [hji3] at H ⊢; exact H)
  by_cases c4 : 0 ≤ (ji3)
  · rw [if_pos c4] at H
    have c4b0 := eq_true c4
    have c4b1 : decide (0 ≤ (ji3)) = true := decide_eq_true c4
    clear c4
    obtain ⟨ji5, hji5⟩ : ∃ j_ : Int, (shl .u32 a0 (ji3)) = j_ := ⟨_, rfl⟩
    replace H : (if 0 ≤ (IntKind.u64.wrap (32 - (ji3))) then (some (Go.bits .or .u32 (ji5) (shr .u32 a0 (IntKind.u64.wrap (32 - (ji3)))))) else (none)) = some r := by first | (rw [hji5] at H; exact H) | (simp only [hji5] at H ⊢; exact H)
    have hji5_ : (IntKind.u32.wrap (a0 * 2 ^ min (ji3).toNat 32)) = ji5 := hji5
    have hji5z : (ji3) ≤ 32 → (IntKind.u32.wrap (a0 * 2 ^ (ji3).toNat)) = ji5 := shl_small hji5
    obtain ⟨ji6, hji6⟩ : ∃ j_ : Int, (IntKind.u64.wrap (32 - (ji3))) = j_ := ⟨_, rfl⟩
    replace H : (if 0 ≤ (ji6) then (some (Go.bits .or .u32 (ji5) (shr .u32 a0 (ji6)))) else (none)) = some r := by first | (rw [hji6] at H; exact H) | (simp only [hji6] at H ⊢; exact H)
    by_cases c7 : 0 ≤ (ji6)
    · rw [if_pos c7] at H
      have c7b0 := eq_true c7
      have c7b1 : decide (0 ≤ (ji6)) = true := decide_eq_true c7
      clear c7
      obtain ⟨ji8, hji8⟩ : ∃ j_ : Int, (shr .u32 a0 (ji6)) = j_ := ⟨_, rfl⟩
      replace H : (some (Go.bits .or .u32 (ji5) (ji8))) = some r := by first | (rw [hji8] at H; exact H) | (simp only [hji8] at H ⊢; exact H)
      have hji8_ : (a0 / 2 ^ min (ji6).toNat 32) = ji8 := hji8
      have hji8z : (ji6) ≤ 32 → (a0 / 2 ^ (ji6).toNat) = ji8 := shr_small hji8
      obtain rfl := Option.some.inj H
      go_enter Try.func70, Try.ntmps70
      go_wp2
      go_ret
      exact ⟨by first | rfl | (simp; done) | (simp only [← hji3, ← hji5, ← hji6, ← hji8] <;> (first | rfl | simp)) | (simp [*]; done), by repeat (first | exact Drawn0.refl _ | apply Drawn0.step)⟩
    · rw [if_neg c7] at H
      exact absurd H (by simp)
  · rw [if_neg c4] at H
    exact absurd H (by simp)

end Go.Proofs.Ytimcafohmahapaa.F

-- F63
namespace Go.Proofs.Ytimcafohmahapaa.F
open Go.RowKit Go.Proofs.YtimcafohmahapaaW.PrintWords Go.Proofs.YtimcafohmahapaaW.PrintLast Go.Proofs.YtimcafohmahapaaW.PrintMore
attribute [local go_sem] max2_int min2_int max_two min_two max_three min_three max_four min_four   -- for this text's walks alone
set_option linter.unusedVariables false
set_option linter.unusedSimpArgs false

/-! ### sha_turn: function 63 -/
def sha_turn.f (a0 : Int) (a1 : Int) : Option (Int) := (bits_RotateLeft32.f a0 (wrap64 (-a1))).bind fun t118 => (some t118)
set_option maxHeartbeats 8000000 in
set_option maxRecDepth 100000 in
theorem sha_turn.calls (a0 : Int) (a1 : Int) (r : Int) (w : World) (h : sha_turn.f a0 a1 = some r) :
    Calls Try.prog 63 #[.int .u32 a0, .int .i64 a1] w fun e w' => e = .returned (.int .u32 r) ∧ Drawn0 w w' := by
  have H : ((bits_RotateLeft32.f a0 (wrap64 (-a1))).bind fun t118 => (some t118)) = some r := h
  clear h
  replace H := Option.bind_eq_some_iff.mp H
  obtain ⟨t118, A30, H⟩ := H
  replace H : (some t118) = some r := H
  have A3 := Aside0.mk A30
  clear A30
  obtain rfl := Option.some.inj H
  go_enter Try.func63, Try.ntmps63
  go_wp2_with (first | ((with_reducible refine gate_callee (f := 70) rfl ?_); refine goesL_ (some 8) rfl rfl Try.func70 (by kernel_rfl) rfl #[.int .u32 a0, .int .i64 (wrap64 (-a1))] rfl (by (try simp only [List.map_toArray, List.map_cons, List.map_nil]); first | done | rfl | (simp only [List.length_drop, List.length_take]; rfl)) ?_; (with_reducible refine (bits_RotateLeft32.calls a0 (wrap64 (-a1)) t118 _ A3.out).mono ?_); rintro e w' ⟨rfl, ⟨nd, rfl⟩⟩; refine ⟨_, rfl, ?_⟩))
  go_ret
  exact ⟨by first | rfl | (simp; done) | (simp [*]; done), by repeat (first | exact Drawn0.refl _ | apply Drawn0.step)⟩

-- NOT PRINTED: function 53 (sha_mix)

-- NOT PRINTED: function 45 (sha_Hash_Write)

end Go.Proofs.Ytimcafohmahapaa.F

-- F67
namespace Go.Proofs.Ytimcafohmahapaa.F
open Go.RowKit Go.Proofs.YtimcafohmahapaaW.PrintWords Go.Proofs.YtimcafohmahapaaW.PrintLast Go.Proofs.YtimcafohmahapaaW.PrintMore
attribute [local go_sem] max2_int min2_int max_two min_two max_three min_three max_four min_four   -- for this text's walks alone
set_option linter.unusedVariables false
set_option linter.unusedSimpArgs false

-- NOT PRINTED: function 60 (strongroomref02_Mix)

-- NOT PRINTED: function 48 (strongroomref02_Sum)

-- NOT PRINTED: function 49 (strongroomref03_turned)

-- NOT PRINTED: function 43 (strongroomref03_Seal)

-- NOT PRINTED: function 37 (strongroomref10_One)

-- NOT PRINTED: function 24 (strongroomlaw11_clash)

-- NOT PRINTED: function 7 (strongroomlaw11_DeltaBack)

end Go.Proofs.Ytimcafohmahapaa.F

-- ShaT
namespace Go.Proofs.Ytimcafohmahapaa.F
open Go Go.RowKit Go.Proofs.YtimcafohmahapaaW.PrintWords Go.Proofs.YtimcafohmahapaaW.PrintLast Go.Proofs.YtimcafohmahapaaW.PrintMore Go.Proofs.YtimcafohmahapaaR
set_option linter.unusedSimpArgs false
set_option linter.unusedVariables false
def addW (a b : Nat) : Nat := (a + b) % 4294967296
def xorW (a b : Nat) : Nat := a ^^^ b
def andW (a b : Nat) : Nat := a &&& b
def orW (a b : Nat) : Nat := a ||| b
def notW (a : Nat) : Nat := 4294967295 - a
def shrW (a n : Nat) : Nat := a >>> n
def shlW (a n : Nat) : Nat := (a <<< n) % 4294967296
def rotW (a n : Nat) : Nat := orW (shrW a n) (shlW a (32 - n))
theorem addW_lt (a b : Nat) : addW a b < 4294967296 := Nat.mod_lt _ (by omega)
theorem shlW_lt (a b : Nat) : shlW a b < 4294967296 := Nat.mod_lt _ (by omega)
theorem xorW_lt {a b : Nat} (ha : a < 4294967296) (hb : b < 4294967296) : xorW a b < 4294967296 := Nat.xor_lt_two_pow (n := 32) ha hb
theorem andW_lt {a : Nat} (b : Nat) (ha : a < 4294967296) : andW a b < 4294967296 := Nat.lt_of_le_of_lt Nat.and_le_left ha
theorem orW_lt {a b : Nat} (ha : a < 4294967296) (hb : b < 4294967296) : orW a b < 4294967296 := Nat.or_lt_two_pow (n := 32) ha hb
theorem notW_lt (a : Nat) : notW a < 4294967296 := by unfold notW; omega
theorem shrW_lt {a : Nat} (n : Nat) (ha : a < 4294967296) : shrW a n < 4294967296 := by
  unfold shrW; rw [Nat.shiftRight_eq_div_pow]; exact Nat.lt_of_le_of_lt (Nat.div_le_self _ _) ha
theorem rotW_lt {a : Nat} (n : Nat) (ha : a < 4294967296) : rotW a n < 4294967296 := orW_lt (shrW_lt n ha) (shlW_lt _ _)
theorem add_w (a b : Nat) : IntKind.u32.wrap ((a : Int) + (b : Int)) = ((addW a b : Nat) : Int) := by rw [IntKind.wrap_u32]; unfold addW; omega
theorem or_w {a b : Nat} (ha : a < 4294967296) (hb : b < 4294967296) : Go.bits .or .u32 (a : Int) (b : Int) = ((orW a b : Nat) : Int) :=
  (bits_nat .u32 32 (Nat.le_refl _) (fun n h0 h3 => by rw [IntKind.wrap_u32]; omega) a b ha hb).2
theorem and_w {a b : Nat} (ha : a < 4294967296) (hb : b < 4294967296) : Go.bits .and .u32 (a : Int) (b : Int) = ((andW a b : Nat) : Int) :=
  (bits_nat .u32 32 (Nat.le_refl _) (fun n h0 h3 => by rw [IntKind.wrap_u32]; omega) a b ha hb).1
theorem xor_w {a b : Nat} (ha : a < 4294967296) (hb : b < 4294967296) : Go.bits .xor .u32 (a : Int) (b : Int) = ((xorW a b : Nat) : Int) := by
  have h := xorW_lt ha hb
  unfold Go.bits
  simp only [show IntKind.u32.bits = 32 from rfl]
  rw [BitVec.toNat_xor, BitVec.toNat_ofInt, BitVec.toNat_ofInt]
  rw [show ((a : Int) % ((2 ^ IntKind.u32.bits : Nat) : Int)).toNat = a from by show ((a : Int) % 4294967296).toNat = a; omega, show ((b : Int) % ((2 ^ IntKind.u32.bits : Nat) : Int)).toNat = b from by show ((b : Int) % 4294967296).toNat = b; omega]
  exact IntWalk.u32_in _ (by unfold xorW at *; omega)
theorem not_w {a : Nat} (ha : a < 4294967296) : Go.bits .xor .u32 IntKind.u32.max (a : Int) = ((notW a : Nat) : Int) := by
  have h := xor_w (a := 2 ^ 32 - 1) (by omega) ha
  have e : (2 ^ 32 - 1) ^^^ a = 2 ^ 32 - 1 - a := by
    have h1 : (BitVec.allOnes 32 ^^^ BitVec.ofNat 32 a).toNat = (2 ^ 32 - 1) ^^^ a := by
      rw [BitVec.toNat_xor, BitVec.toNat_ofNat, Nat.mod_eq_of_lt (by omega), BitVec.toNat_allOnes]
    rw [← h1, BitVec.allOnes_xor, BitVec.toNat_not, BitVec.toNat_ofNat, Nat.mod_eq_of_lt (by omega)]
  have e2 : xorW (2 ^ 32 - 1) a = notW a := by unfold xorW notW; rw [e]
  rw [e2] at h
  rw [← h]
  congr 1
theorem shr_w (a n : Nat) (hn : n ≤ 32) : shr .u32 (a : Int) (n : Int) = ((shrW a n : Nat) : Int) := by
  unfold shr shrW
  rw [Nat.shiftRight_eq_div_pow, show min (n : Int).toNat IntKind.u32.bits = n from by show min n 32 = n; omega]
  push_cast; rfl
theorem shl_w (a n : Nat) (hn : n ≤ 32) : shl .u32 (a : Int) (n : Int) = ((shlW a n : Nat) : Int) := by
  unfold shl shlW
  rw [Nat.shiftLeft_eq, show min (n : Int).toNat IntKind.u32.bits = n from by show min n 32 = n; omega, IntKind.wrap_u32, show (2 : Int) ^ n = ((2 ^ n : Nat) : Int) from by push_cast; rfl]
  generalize 2 ^ n = k
  rw [show (a : Int) * (k : Int) = ((a * k : Nat) : Int) from by simp]
  generalize a * k = m
  omega
theorem and_31 (z : Int) (h0 : 0 ≤ z) (h1 : z < 18446744073709551616) : Go.bits .and .u64 z 31 = z % 32 := by go_bits2
theorem turn_f (a n : Nat) (ha : a < 4294967296) (h1 : 1 ≤ n) (h2 : n ≤ 31) : sha_turn.f a n = some ((rotW a n : Nat) : Int) := by
  unfold sha_turn.f bits_RotateLeft32.f
  have e0 : wrap64 (-(n : Int)) = -(n : Int) := by unfold wrap64; omega
  have e1 : IntKind.u64.wrap (-(n : Int)) = 18446744073709551616 - (n : Int) := by rw [IntKind.wrap_u64]; omega
  have e2 : Go.bits .and .u64 (18446744073709551616 - (n : Int)) 31 = ((32 - n : Nat) : Int) := by rw [and_31 _ (by omega) (by omega)]; omega
  have e3 : IntKind.u64.wrap (32 - ((32 - n : Nat) : Int)) = (n : Int) := by rw [IntWalk.u64_in _ (by omega)]; omega
  rw [e0, e1, e2, if_pos (by omega), e3, if_pos (by omega), shr_w a n (by omega), shl_w a (32 - n) (by omega), or_w (shlW_lt _ _) (shrW_lt n ha)]
  simp only [Option.bind_some]
  unfold rotW orW
  rw [Nat.or_comm]
theorem turn_c (a n : Nat) (ha : a < 4294967296) (h1 : 1 ≤ n) (h2 : n ≤ 31) (w : World) : Calls Try.prog 63 #[.int .u32 (a : Int), .int .i64 (n : Int)] w (Tells w (Is (.int .u32 ((rotW a n : Nat) : Int)))) :=
  tells_is ((sha_turn.calls a n _ w (turn_f a n ha h1 h2)).mono fun _ _ ⟨h, k⟩ => ⟨h, drawn_below k⟩)
end Go.Proofs.Ytimcafohmahapaa.F

-- ShaS
namespace Go.Proofs.Ytimcafohmahapaa.F
open Go Go.RowKit
set_option linter.unusedSimpArgs false
set_option linter.unusedVariables false
def byteN (l : List Int) (i : Nat) : Nat := (l.getD i 0).toNat
def be32 (l : List Int) (t : Nat) : Nat := byteN l (4 * t) * 16777216 + byteN l (4 * t + 1) * 65536 + byteN l (4 * t + 2) * 256 + byteN l (4 * t + 3)
def sg0 (x : Nat) : Nat := xorW (xorW (rotW x 7) (rotW x 18)) (shrW x 3)
def sg1 (x : Nat) : Nat := xorW (xorW (rotW x 17) (rotW x 19)) (shrW x 10)
def wnext (w : List Nat) (t : Nat) : Nat := addW (addW (addW (w.getD (t - 16) 0) (w.getD (t - 7) 0)) (sg0 (w.getD (t - 15) 0))) (sg1 (w.getD (t - 2) 0))
/-- the schedule's first words -/
def ws (l : List Int) : Nat → List Nat
  | 0 => []
  | t + 1 => ws l t ++ [if t < 16 then be32 l t else wnext (ws l t) t]
/-- the eight words of a round -/
structure St where
  (a b c d e f g h : Nat)
def bigS1 (e : Nat) : Nat := xorW (xorW (rotW e 6) (rotW e 11)) (rotW e 25)
def bigS0 (a : Nat) : Nat := xorW (xorW (rotW a 2) (rotW a 13)) (rotW a 22)
def chW (e f g : Nat) : Nat := xorW (andW e f) (andW (notW e) g)
def majW (a b c : Nat) : Nat := xorW (xorW (andW a b) (andW a c)) (andW b c)
def uW (s : St) (k w : Nat) : Nat := addW (addW (addW (addW s.h (bigS1 s.e)) (chW s.e s.f s.g)) k) w
def vW (s : St) : Nat := addW (bigS0 s.a) (majW s.a s.b s.c)
def rstep (k w : Nat) (s : St) : St := ⟨addW (uW s k w) (vW s), s.a, s.b, s.c, addW s.d (uW s k w), s.e, s.f, s.g⟩
/-- the first rounds -/
def rn (ks ws : List Nat) : Nat → St → St
  | 0, s => s
  | t + 1, s => rstep (ks.getD t 0) (ws.getD t 0) (rn ks ws t s)
def St.list (s : St) : List Nat := [s.a, s.b, s.c, s.d, s.e, s.f, s.g, s.h]
def St.of (l : List Nat) : St := ⟨l.getD 0 0, l.getD 1 0, l.getD 2 0, l.getD 3 0, l.getD 4 0, l.getD 5 0, l.getD 6 0, l.getD 7 0⟩
/-- the sums, as far as they are made -/
def sumTo (s z : List Nat) (i : Nat) : List Nat := (List.range 8).map fun j => if j < i then addW (s.getD j 0) (z.getD j 0) else s.getD j 0
/-- a state mixed with a block -/
def mixL (ks s : List Nat) (l : List Int) : List Nat := sumTo s (rn ks (ws l 64) 64 (St.of s)).list 8
/-- all are words -/
def words (l : List Nat) : Prop := ∀ x ∈ l, x < 4294967296
structure St.ok (s : St) : Prop where
  (a : s.a < 4294967296) (b : s.b < 4294967296) (c : s.c < 4294967296) (d : s.d < 4294967296) (e : s.e < 4294967296) (f : s.f < 4294967296) (g : s.g < 4294967296) (h : s.h < 4294967296)
theorem words_get {l : List Nat} (h : words l) (i : Nat) : l.getD i 0 < 4294967296 := by
  rw [List.getD_eq_getElem?_getD]
  by_cases hi : i < l.length
  · rw [List.getElem?_eq_getElem hi]; exact h _ (List.getElem_mem hi)
  · rw [List.getElem?_eq_none (by omega)]; simp
theorem St.of_ok {l : List Nat} (h : words l) : (St.of l).ok := ⟨words_get h 0, words_get h 1, words_get h 2, words_get h 3, words_get h 4, words_get h 5, words_get h 6, words_get h 7⟩
theorem rstep_ok {s : St} (k w : Nat) (h : s.ok) : (rstep k w s).ok := ⟨addW_lt _ _, h.a, h.b, h.c, addW_lt _ _, h.e, h.f, h.g⟩
theorem rn_ok {ks ws : List Nat} {s : St} (h : s.ok) : ∀ t, (rn ks ws t s).ok
  | 0 => h
  | t + 1 => rstep_ok _ _ (rn_ok h t)
theorem ws_len (l : List Int) : ∀ t, (ws l t).length = t
  | 0 => rfl
  | t + 1 => by simp [ws, ws_len l t]
theorem byteN_lt {l : List Int} (h : ∀ x ∈ l, 0 ≤ x ∧ x < 256) (i : Nat) : byteN l i < 256 := by
  unfold byteN
  rw [List.getD_eq_getElem?_getD]
  by_cases hi : i < l.length
  · rw [List.getElem?_eq_getElem hi]; have := h _ (List.getElem_mem hi); simp; omega
  · rw [List.getElem?_eq_none (by omega)]; simp
theorem be32_lt {l : List Int} (h : ∀ x ∈ l, 0 ≤ x ∧ x < 256) (t : Nat) : be32 l t < 4294967296 := by
  have h0 := byteN_lt h (4 * t)
  have h1 := byteN_lt h (4 * t + 1)
  have h2 := byteN_lt h (4 * t + 2)
  have h3 := byteN_lt h (4 * t + 3)
  unfold be32; omega
theorem ws_words {l : List Int} (h : ∀ x ∈ l, 0 ≤ x ∧ x < 256) : ∀ t, words (ws l t)
  | 0 => fun x hx => by simp [ws] at hx
  | t + 1 => fun x hx => by
    rcases List.mem_append.1 hx with hx | hx
    · exact ws_words h t x hx
    · rw [List.mem_singleton.1 hx]
      split
      · exact be32_lt h t
      · exact addW_lt _ _
theorem sumTo_words (s z : List Nat) (hs : words s) (i : Nat) : words (sumTo s z i) := by
  intro x hx
  obtain ⟨j, -, rfl⟩ := List.mem_map.1 hx
  show (if j < i then addW (s.getD j 0) (z.getD j 0) else s.getD j 0) < 4294967296
  split
  · exact addW_lt _ _
  · exact words_get hs j
theorem list8 (s : List Nat) (h : s.length = 8) : (List.range 8).map (fun j => s.getD j 0) = s := by
  apply List.ext_getElem?
  intro j
  by_cases hj : j < 8
  · rw [List.getElem?_map, List.getElem?_range hj, List.getElem?_eq_getElem (by omega : j < s.length)]
    show some (s.getD j 0) = _
    rw [List.getD_eq_getElem?_getD, List.getElem?_eq_getElem (by omega : j < s.length)]; rfl
  · rw [List.getElem?_eq_none (by simp; omega), List.getElem?_eq_none (by omega)]
theorem sumTo_0 (s z : List Nat) (h : s.length = 8) : sumTo s z 0 = s := by
  have : sumTo s z 0 = (List.range 8).map (fun j => s.getD j 0) := by unfold sumTo; simp
  rw [this, list8 s h]
theorem sumTo_len (s z : List Nat) (i : Nat) : (sumTo s z i).length = 8 := by simp [sumTo]
theorem sumTo_get (s z : List Nat) (i j : Nat) (h : j < 8) : (sumTo s z i)[j]? = some (if j < i then addW (s.getD j 0) (z.getD j 0) else s.getD j 0) := by
  unfold sumTo
  rw [List.getElem?_map, List.getElem?_range h]; rfl
theorem sumTo_at (s z : List Nat) (i : Nat) (h : i < 8) : (sumTo s z i).getD i 0 = s.getD i 0 := by
  rw [List.getD_eq_getElem?_getD, sumTo_get s z i i h, if_neg (by omega)]; rfl
theorem sumTo_succ (s z : List Nat) (i : Nat) (h : i < 8) : (sumTo s z i).set i (addW (s.getD i 0) (z.getD i 0)) = sumTo s z (i + 1) := by
  apply List.ext_getElem?
  intro j
  by_cases hj : j < 8
  · rw [List.getElem?_set, sumTo_len, sumTo_get s z (i + 1) j hj, sumTo_get s z i j hj]
    by_cases e : i = j
    · subst e; rw [if_pos rfl, if_pos h, if_pos (by omega)]
    · rw [if_neg e]
      by_cases h1 : j < i
      · rw [if_pos h1, if_pos (by omega)]
      · rw [if_neg h1, if_neg (by omega)]
  · rw [List.getElem?_eq_none (by rw [List.length_set, sumTo_len]; omega), List.getElem?_eq_none (by rw [sumTo_len]; omega)]
theorem mixL_words (ks s : List Nat) (l : List Int) (hs : words s) : words (mixL ks s l) := sumTo_words _ _ hs _
theorem mixL_len (ks s : List Nat) (l : List Int) : (mixL ks s l).length = 8 := by simp [mixL, sumTo]
/-- a byte put behind -/
theorem or_byte (x b : Nat) (hx : x < 16777216) (hb : b < 256) : orW (shlW x 8) b = x * 256 + b := by
  unfold orW shlW
  rw [Nat.shiftLeft_eq, Nat.mod_eq_of_lt (by omega), show x * 2 ^ 8 = 2 ^ 8 * x from by omega, ← Nat.two_pow_add_eq_or_of_lt (by omega : b < 2 ^ 8)]
end Go.Proofs.Ytimcafohmahapaa.F

-- F52
namespace Go.Proofs.Ytimcafohmahapaa.F
open Go.RowKit Go.Proofs.YtimcafohmahapaaW.PrintWords Go.Proofs.YtimcafohmahapaaW.PrintLast Go.Proofs.YtimcafohmahapaaW.PrintMore
attribute [local go_sem] max2_int min2_int max_two min_two max_three min_three max_four min_four   -- for this text's walks alone
set_option linter.unusedVariables false
set_option linter.unusedSimpArgs false

/-! ### sha_Prime: function 52 -/
mutual
def sha_Prime.j0 : Nat → Int → Bool → Option (Int)
  | 0, _, _ => none
  | k + 1, x0, x12 => if x12 = true then (some 0) else (sha_Prime.l0 k x0 2 0)
def sha_Prime.l0 : Nat → Int → Int → Int → Option (Int)
  | 0, _, _, _ => none
  | k + 1, x0, x3, x4 => sha_Prime.l1 k x0 x3 x4 true 2
def sha_Prime.l1 : Nat → Int → Int → Int → Bool → Int → Option (Int)
  | 0, _, _, _, _, _ => none
  | k + 1, x0, x3, x4, x5, x6 => if ((x6 * x6) % 4294967296) ≤ x3 then (if x5 = true then (if x6 = 0 then (none) else (sha_Prime.l1 k x0 x3 x4 ((Int.tmod x3 x6) != 0) ((x6 + 1) % 4294967296))) else (sha_Prime.l1 k x0 x3 x4 false ((x6 + 1) % 4294967296))) else (if x5 = true then (if x4 = x0 then (some x3) else (sha_Prime.l0 k x0 ((x3 + 1) % 4294967296) (wrap64 (x4 + 1)))) else (sha_Prime.l0 k x0 ((x3 + 1) % 4294967296) x4))
end
def sha_Prime.f (k : Nat) (a0 : Int) : Option (Int) := if a0 < 0 then (sha_Prime.j0 k a0 true) else (sha_Prime.j0 k a0 (decide (a0 > 99)))
set_option maxHeartbeats 8000000 in
set_option maxRecDepth 100000 in
theorem sha_Prime.calls (k : Nat) (a0 : Int) (r : Int) (w : World) (h : sha_Prime.f k a0 = some r) :
    Calls Try.prog 52 #[.int .i64 a0] w fun e w' => e = .returned (.int .u32 r) ∧ Drawn0 w w' := by
  have H : (if a0 < 0 then (sha_Prime.j0 k a0 true) else (sha_Prime.j0 k a0 (decide (a0 > 99)))) = some r := h
  clear h
  have HC2 := Aside0.mk H
  clear H
  go_enter Try.func52, Try.ntmps52
  go_upto_region 1 with (fail)
  go_cut [12] (fun v12 wc => ∃ (kq : Nat) (x12_1 : Bool), v12 = .bool x12_1 ∧ Aside0 (sha_Prime.j0 kq a0 x12_1 = some r) ∧ Aside0 (kq ≤ k) ∧ Drawn0 w wc)
  case first =>
    have H := HC2.out
    clear HC2
    by_cases c3 : a0 < 0
    · rw [if_pos c3] at H
      have c3b0 : decide (a0 < 0) = true := decide_eq_true c3
      clear c3
      (first | rw [c3b0] | (simp only [i64_w, i32_w]; rw [c3b0]) | skip)
      have H' := Aside0.mk H
      clear H
      go_wp2
      go_meet
      case rel => exact ⟨_, (true), (by first | rfl | (simp; done) | (simp [*]; done)), H', ⟨by first | omega | exact Nat.le_refl _⟩, by repeat (first | exact Drawn0.refl _ | apply Drawn0.step)⟩
    · rw [if_neg c3] at H
      have c3b0 : decide (a0 < 0) = false := decide_eq_false c3
      clear c3
      (first | rw [c3b0] | (simp only [i64_w, i32_w]; rw [c3b0]) | skip)
      have H' := Aside0.mk H
      clear H
      go_wp2
      go_meet
      case rel => exact ⟨_, (decide (a0 > 99)), (by first | rfl | (simp; done) | (simp [*]; done)), H', ⟨by first | omega | exact Nat.le_refl _⟩, by repeat (first | exact Drawn0.refl _ | apply Drawn0.step)⟩
  case rest =>
    clear HC2
    try clear p2
    try clear c3
    try clear c3b0
    obtain ⟨kq, x12_1, rfl, HA, HJ1, ⟨mc1, rfl⟩⟩ := hcut
    cases kq with
    | zero => exact absurd HA.out (by simp [sha_Prime.j0])
    | succ kj1 =>
      have H := HA.out
      clear HA
      simp only [sha_Prime.j0] at H
      by_cases c4 : x12_1 = true
      · subst c4
        have H1 : (some 0) = some r := by rw [if_pos rfl] at H; exact H
        clear H
        have H := H1
        clear H1
        obtain rfl := Option.some.inj H
        go_wp2
        go_ret
        exact ⟨by first | rfl | (simp; done) | (simp [*]; done), by repeat (first | exact Drawn0.refl _ | apply Drawn0.step)⟩
      · replace c4 := Bool.eq_false_iff.mpr c4
        subst c4
        have H1 : (sha_Prime.l0 kj1 a0 2 0) = some r := by rw [if_neg (show ¬ (false = true) by decide)] at H; exact H
        clear H
        have H := H1
        clear H1
        have H' := Aside0.mk H
        clear H
        go_wp2
        go_loopg [3, 4] kj1 (fun kq v3 v4 w' => ∃ (x3_2 : Int) (x4_2 : Int), v3 = .int .u32 x3_2 ∧ v4 = .int .i64 x4_2 ∧ Aside0 (sha_Prime.l0 kq a0 x3_2 x4_2 = some r) ∧ Aside0 (kq ≤ kj1) ∧ Drawn0 w w')
        case atStart => exact ⟨(2), (0), (by first | rfl | (simp; done) | (simp [*]; done)), (by first | rfl | (simp; done) | (simp [*]; done)), H', ⟨Nat.le_refl _⟩, by repeat (first | exact Drawn0.refl _ | apply Drawn0.step)⟩
        case round =>
          clear H'
          try clear c1
          try clear p2
          try clear c3
          try clear c3b0
          try clear c4
          try clear p2
          obtain ⟨x3_2, x4_2, rfl, rfl, HA, HK2, ⟨m2, rfl⟩⟩ := hrel
          cases gk with
          | zero => exact absurd HA.out (by simp [sha_Prime.l0])
          | succ k2 =>
            have H := HA.out
            clear HA
            simp only [sha_Prime.l0] at H
            have H' := Aside0.mk H
            clear H
            go_wp2
            go_loopg [5, 6] k2 (fun kq v5 v6 w' => ∃ (x5_3 : Bool) (x6_3 : Int), v5 = .bool x5_3 ∧ v6 = .int .u32 x6_3 ∧ Aside0 (sha_Prime.l1 kq a0 x3_2 x4_2 x5_3 x6_3 = some r) ∧ Aside0 (kq ≤ k2) ∧ Drawn0 w w')
            case atStart => exact ⟨(true), (2), (by first | rfl | (simp; done) | (simp [*]; done)), (by first | rfl | (simp; done) | (simp [*]; done)), H', ⟨Nat.le_refl _⟩, by repeat (first | exact Drawn0.refl _ | apply Drawn0.step)⟩
            case round =>
              clear H'
              try clear c1
              try clear p2
              try clear c3
              try clear c3b0
              try clear c4
              try clear p2
              obtain ⟨x5_3, x6_3, rfl, rfl, HA, HK3, ⟨m3, rfl⟩⟩ := hrel
              cases gk with
              | zero => exact absurd HA.out (by simp [sha_Prime.l1])
              | succ k3 =>
                have H := HA.out
                clear HA
                simp only [sha_Prime.l1] at H
                by_cases c5 : ((x6_3 * x6_3) % 4294967296) ≤ x3_2
                · rw [if_pos c5] at H
                  have c5b0 : decide (((x6_3 * x6_3) % 4294967296) ≤ x3_2) = true := decide_eq_true c5
                  clear c5
                  by_cases c6 : x5_3 = true
                  · subst c6
                    have H1 : (if x6_3 = 0 then (none) else (sha_Prime.l1 k3 a0 x3_2 x4_2 ((Int.tmod x3_2 x6_3) != 0) ((x6_3 + 1) % 4294967296))) = some r := by rw [if_pos rfl] at H; exact H
                    clear H
                    have H := H1
                    clear H1
                    by_cases c7 : x6_3 = 0
                    · rw [if_pos c7] at H
                      exact absurd H (by simp)
                    · rw [if_neg c7] at H
                      have c7b0 : (x6_3 == 0) = false := beq_eq_false_iff_ne.mpr c7
                      have c7b1 : (x6_3 != 0) = true := bne_iff_ne.mpr c7
                      have H' := Aside0.mk H
                      clear H
                      go_wp2
                      go_roundg k3
                      case measure => have := HJ1.out; have := HK2.out; have := HK3.out; omega
                      case rel => exact ⟨(((Int.tmod x3_2 x6_3) != 0)), ((x6_3 + 1) % 4294967296), (by first | rfl | (simp; done) | (simp [*]; done)), (by first | rfl | (simp; done) | (simp [*]; done)), H', ⟨by have := HJ1.out; have := HK2.out; have := HK3.out; omega⟩, by repeat (first | exact Drawn0.refl _ | apply Drawn0.step)⟩
                  · replace c6 := Bool.eq_false_iff.mpr c6
                    subst c6
                    have H1 : (sha_Prime.l1 k3 a0 x3_2 x4_2 false ((x6_3 + 1) % 4294967296)) = some r := by rw [if_neg (show ¬ (false = true) by decide)] at H; exact H
                    clear H
                    have H := H1
                    clear H1
                    have H' := Aside0.mk H
                    clear H
                    go_wp2
                    go_roundg k3
                    case measure => have := HJ1.out; have := HK2.out; have := HK3.out; omega
                    case rel => exact ⟨(false), ((x6_3 + 1) % 4294967296), (by first | rfl | (simp; done) | (simp [*]; done)), (by first | rfl | (simp; done) | (simp [*]; done)), H', ⟨by have := HJ1.out; have := HK2.out; have := HK3.out; omega⟩, by repeat (first | exact Drawn0.refl _ | apply Drawn0.step)⟩
                · rw [if_neg c5] at H
                  have c5b0 : decide (((x6_3 * x6_3) % 4294967296) ≤ x3_2) = false := decide_eq_false c5
                  clear c5
                  by_cases c8 : x5_3 = true
                  · subst c8
                    have H1 : (if x4_2 = a0 then (some x3_2) else (sha_Prime.l0 k3 a0 ((x3_2 + 1) % 4294967296) (wrap64 (x4_2 + 1)))) = some r := by rw [if_pos rfl] at H; exact H
                    clear H
                    have H := H1
                    clear H1
                    by_cases c9 : x4_2 = a0
                    · rw [if_pos c9] at H
                      have c9b0 : (x4_2 == a0) = true := beq_iff_eq.mpr c9
                      have c9b1 : (x4_2 != a0) = false := bne_eq_false_iff_eq.mpr c9
                      clear c9
                      obtain rfl := Option.some.inj H
                      go_wp2
                      go_ret
                      exact ⟨by first | rfl | (simp; done) | (simp [*]; done), by repeat (first | exact Drawn0.refl _ | apply Drawn0.step)⟩
                    · rw [if_neg c9] at H
                      have c9b0 : (x4_2 == a0) = false := beq_eq_false_iff_ne.mpr c9
                      have c9b1 : (x4_2 != a0) = true := bne_iff_ne.mpr c9
                      have H' := Aside0.mk H
                      clear H
                      go_wp2
                      go_roundg k3
                      case measure => have := HJ1.out; have := HK2.out; have := HK3.out; omega
                      case rel => exact ⟨((x3_2 + 1) % 4294967296), (wrap64 (x4_2 + 1)), (by first | rfl | (simp; done) | (simp [*]; done)), (by first | rfl | (simp; done) | (simp [*]; done)), H', ⟨by have := HJ1.out; have := HK2.out; have := HK3.out; omega⟩, by repeat (first | exact Drawn0.refl _ | apply Drawn0.step)⟩
                  · replace c8 := Bool.eq_false_iff.mpr c8
                    subst c8
                    have H1 : (sha_Prime.l0 k3 a0 ((x3_2 + 1) % 4294967296) x4_2) = some r := by rw [if_neg (show ¬ (false = true) by decide)] at H; exact H
                    clear H
                    have H := H1
                    clear H1
                    have H' := Aside0.mk H
                    clear H
                    go_wp2
                    go_roundg k3
                    case measure => have := HJ1.out; have := HK2.out; have := HK3.out; omega
                    case rel => exact ⟨((x3_2 + 1) % 4294967296), (x4_2), (by first | rfl | (simp; done) | (simp [*]; done)), (by first | rfl | (simp; done) | (simp [*]; done)), H', ⟨by have := HJ1.out; have := HK2.out; have := HK3.out; omega⟩, by repeat (first | exact Drawn0.refl _ | apply Drawn0.step)⟩

-- NOT PRINTED: function 44 (sha_New)

end Go.Proofs.Ytimcafohmahapaa.F

-- F64
namespace Go.Proofs.Ytimcafohmahapaa.F
open Go.RowKit Go.Proofs.YtimcafohmahapaaW.PrintWords Go.Proofs.YtimcafohmahapaaW.PrintLast Go.Proofs.YtimcafohmahapaaW.PrintMore
attribute [local go_sem] max2_int min2_int max_two min_two max_three min_three max_four min_four   -- for this text's walks alone
set_option linter.unusedVariables false
set_option linter.unusedSimpArgs false

-- NOT PRINTED: function 56 (strongroomref02_Words)

end Go.Proofs.Ytimcafohmahapaa.F

-- F58
namespace Go.Proofs.Ytimcafohmahapaa.F
open Go.RowKit Go.Proofs.YtimcafohmahapaaW.PrintWords Go.Proofs.YtimcafohmahapaaW.PrintLast Go.Proofs.YtimcafohmahapaaW.PrintMore
attribute [local go_sem] max2_int min2_int max_two min_two max_three min_three max_four min_four   -- for this text's walks alone
set_option linter.unusedVariables false
set_option linter.unusedSimpArgs false

end Go.Proofs.Ytimcafohmahapaa.F

-- ShaQ
namespace Go.Proofs.Ytimcafohmahapaa.F
open Go Go.RowKit Go.Proofs.YtimcafohmahapaaW.PrintWords Go.Proofs.YtimcafohmahapaaW.PrintLast Go.Proofs.YtimcafohmahapaaW.PrintMore Go.Proofs.YtimcafohmahapaaR
set_option linter.unusedSimpArgs false
set_option linter.unusedVariables false
set_option maxRecDepth 100000
/-- no number from d on, below p, divides p -/
def noneFrom (p d : Nat) : Bool := (List.range' d (p - d)).all (fun e => p % e != 0)
/-- is a number divided by none that is less, but 1? -/
def wholeN (p : Nat) : Bool := noneFrom p 2
/-- no number from d on whose square is no more than p divides p (p below 625) -/
def restOK (p d : Nat) : Bool := (List.range' d (25 - d)).all (fun e => decide (p < e * e) || p % e != 0)
theorem whole_rest : ∀ p : Fin 542, 2 ≤ p.val → wholeN p.val = restOK p.val 2 := by decide +kernel
/-- how many primes are below a number -/
def cnt (p : Nat) : Nat := ((List.range' 2 (p - 2)).filter wholeN).length
/-- the first hundred primes -/
def primesL : List Nat := (List.range' 2 540).filter wholeN
theorem cnt_succ (p : Nat) (hp : 2 ≤ p) : cnt (p + 1) = cnt p + (if wholeN p = true then 1 else 0) := by
  unfold cnt
  rw [show p + 1 - 2 = (p - 2) + 1 from by omega, List.range'_concat, List.filter_append, List.length_append]
  congr 1
  rw [show 2 + 1 * (p - 2) = p from by omega]
  by_cases h : wholeN p = true <;> simp [h]
theorem cnt_541 : cnt 541 = 99 ∧ wholeN 541 = true := by decide +kernel
theorem prime_at (p : Nat) (hp : 2 ≤ p) (h : p ≤ 541) (hw : wholeN p = true) : primesL.getD (cnt p) 0 = p := by
  have e : List.range' 2 540 = List.range' 2 (p - 2) ++ (p :: List.range' (p + 1) (541 - p)) := by
    have h1 := List.range'_append (s := 2) (m := p - 2) (n := 542 - p) (step := 1)
    rw [show p - 2 + (542 - p) = 540 from by omega, show 2 + 1 * (p - 2) = p from by omega] at h1
    rw [← h1, show 542 - p = (541 - p) + 1 from by omega, List.range'_succ]
  unfold primesL cnt
  rw [e, List.filter_append, List.filter_cons, if_pos hw]
  simp [List.getD]
theorem rest_step (p d : Nat) (hd : d < 25) : restOK p d = ((decide (p < d * d) || p % d != 0) && restOK p (d + 1)) := by
  unfold restOK
  rw [show 25 - d = (25 - (d + 1)) + 1 from by omega, List.range'_succ, List.all_cons]
theorem rest_done (p : Nat) : ∀ j d, 25 - d = j → p < d * d → restOK p d = true := by
  intro j
  induction j with
  | zero => intro d hd h; unfold restOK; rw [hd]; rfl
  | succ j ih =>
    intro d hd h
    have h2 : d * d ≤ (d + 1) * (d + 1) := Nat.mul_le_mul (by omega) (by omega)
    rw [rest_step p d (by omega), ih (d + 1) (by omega) (by omega), decide_eq_true h]; rfl
theorem prime_l1 (i p n : Nat) (hp : p ≤ 541) (hn : n ≤ 100) : ∀ (j d : Nat) (b : Bool), 25 - d = j → 2 ≤ d → d ≤ 25 → ∃ m, ∀ k : Nat, sha_Prime.l1 (k + m) i p n b d =
    if (b && restOK p d) = true then (if n = i then some (p : Int) else sha_Prime.l0 k i ((p + 1 : Nat) : Int) ((n + 1 : Nat) : Int)) else sha_Prime.l0 k i ((p + 1 : Nat) : Int) n := by
  have stop : ∀ (d : Nat) (b : Bool), 2 ≤ d → d ≤ 25 → p < d * d → ∃ m, ∀ k : Nat, sha_Prime.l1 (k + m) i p n b d =
      if (b && restOK p d) = true then (if n = i then some (p : Int) else sha_Prime.l0 k i ((p + 1 : Nat) : Int) ((n + 1 : Nat) : Int)) else sha_Prime.l0 k i ((p + 1 : Nat) : Int) n := by
    intro d b h2 h25 hsq
    refine ⟨1, fun k => ?_⟩
    have hq : ((d : Int) * (d : Int)) % 4294967296 = ((d * d : Nat) : Int) := by
      have : d * d ≤ 25 * 25 := Nat.mul_le_mul h25 h25
      rw [show (d : Int) * (d : Int) = ((d * d : Nat) : Int) from by simp]; omega
    rw [sha_Prime.l1, hq, if_neg (by omega), rest_done p _ d rfl hsq, Bool.and_true]
    rw [show ((p : Int) + 1) % 4294967296 = ((p + 1 : Nat) : Int) from by omega, show wrap64 ((n : Int) + 1) = ((n + 1 : Nat) : Int) from by unfold wrap64; omega]
    cases b
    · rfl
    · rw [if_pos rfl, if_pos rfl]
      by_cases h : n = i
      · rw [if_pos (by omega), if_pos h]
      · rw [if_neg (by omega), if_neg h]
  intro j
  induction j with
  | zero =>
    intro d b hd h2 h25
    obtain rfl : d = 25 := by omega
    exact stop 25 b h2 h25 (by omega)
  | succ j ih =>
    intro d b hd h2 h25
    by_cases hsq : p < d * d
    · exact stop d b h2 h25 hsq
    · have hq : ((d : Int) * (d : Int)) % 4294967296 = ((d * d : Nat) : Int) := by
        have : d * d ≤ 25 * 25 := Nat.mul_le_mul h25 h25
        rw [show (d : Int) * (d : Int) = ((d * d : Nat) : Int) from by simp]; omega
      have ht : Int.tmod (p : Int) (d : Int) = ((p % d : Nat) : Int) := by rw [Int.tmod_eq_emod_of_nonneg (by omega)]; simp
      have hr := rest_step p d (by omega)
      rw [decide_eq_false hsq, Bool.false_or] at hr
      cases b
      · obtain ⟨m, hm⟩ := ih (d + 1) false (by omega) (by omega) (by omega)
        refine ⟨m + 1, fun k => ?_⟩
        rw [← Nat.add_assoc, sha_Prime.l1, hq, if_pos (by omega), if_neg (by simp), show ((d : Int) + 1) % 4294967296 = ((d + 1 : Nat) : Int) from by omega, hm]
        simp
      · obtain ⟨m, hm⟩ := ih (d + 1) (p % d != 0) (by omega) (by omega) (by omega)
        refine ⟨m + 1, fun k => ?_⟩
        rw [← Nat.add_assoc, sha_Prime.l1, hq, if_pos (by omega), if_pos rfl, if_neg (by omega), show ((d : Int) + 1) % 4294967296 = ((d + 1 : Nat) : Int) from by omega, ht,
          show (((p % d : Nat) : Int) != 0) = (p % d != 0) from by rw [Bool.eq_iff_iff]; simp; omega, hm, hr, Bool.true_and]
theorem prime_l0 (i : Nat) (hi : i ≤ 99) : ∀ (j p : Nat), 541 - p = j → 2 ≤ p → p ≤ 541 → cnt p ≤ i → ∃ k, sha_Prime.l0 k i p (cnt p : Nat) = some ((primesL.getD i 0 : Nat) : Int) := by
  intro j
  induction j with
  | zero =>
    intro p hj h2 h541 hc
    obtain rfl : p = 541 := by omega
    have hc9 := cnt_541.1
    obtain ⟨m, hm⟩ := prime_l1 i 541 (cnt 541) (by omega) (by omega) 23 2 true rfl (by omega) (by omega)
    refine ⟨0 + m + 1, ?_⟩
    rw [sha_Prime.l0, show (2 : Int) = ((2 : Nat) : Int) from rfl]
    rw [hm, ← whole_rest ⟨541, by omega⟩ (by show 2 ≤ 541; omega), cnt_541.2, Bool.true_and, if_pos rfl, if_pos (by omega)]
    rw [show i = cnt 541 from by omega, prime_at 541 (by omega) (by omega) cnt_541.2]
  | succ j ih =>
    intro p hj h2 h541 hc
    obtain ⟨m, hm⟩ := prime_l1 i p (cnt p) (by omega) (by omega) 23 2 true rfl (by omega) (by omega)
    have hs := cnt_succ p h2
    have hw := whole_rest ⟨p, by omega⟩ h2
    by_cases hwp : wholeN p = true
    · by_cases hci : cnt p = i
      · refine ⟨0 + m + 1, ?_⟩
        rw [sha_Prime.l0, show (2 : Int) = ((2 : Nat) : Int) from rfl]
        rw [hm, ← hw, hwp, Bool.true_and, if_pos rfl, if_pos hci]
        rw [← hci, prime_at p h2 h541 hwp]
      · rw [if_pos hwp] at hs
        obtain ⟨k, hk⟩ := ih (p + 1) (by omega) (by omega) (by omega) (by omega)
        refine ⟨k + m + 1, ?_⟩
        rw [sha_Prime.l0, show (2 : Int) = ((2 : Nat) : Int) from rfl]
        rw [hm, ← hw, hwp, Bool.true_and, if_pos rfl, if_neg hci, ← hs, hk]
    · rw [if_neg hwp] at hs
      obtain ⟨k, hk⟩ := ih (p + 1) (by omega) (by omega) (by omega) (by omega)
      refine ⟨k + m + 1, ?_⟩
      rw [sha_Prime.l0, show (2 : Int) = ((2 : Nat) : Int) from rfl]
      rw [hm, ← hw, Bool.true_and, if_neg hwp]
      rw [Nat.add_zero] at hs
      rw [hs] at hk
      exact hk
/-- the prime of a number, or none -/
def primeI (i : Int) : Int := if i < 0 ∨ 99 < i then 0 else ((primesL.getD i.toNat 0 : Nat) : Int)
theorem prime_f (i : Int) : ∃ k, sha_Prime.f k i = some (primeI i) := by
  unfold primeI
  by_cases h0 : i < 0
  · exact ⟨1, by unfold sha_Prime.f; rw [if_pos h0, if_pos (Or.inl h0)]; rfl⟩
  by_cases h9 : 99 < i
  · exact ⟨1, by unfold sha_Prime.f; rw [if_neg h0, if_pos (Or.inr h9), decide_eq_true h9]; rfl⟩
  obtain ⟨n, rfl⟩ := Int.eq_ofNat_of_zero_le (by omega : 0 ≤ i)
  obtain ⟨k, hk⟩ := prime_l0 n (by omega) 539 2 rfl (by omega) (by omega) (by rw [show cnt 2 = 0 from rfl]; omega)
  refine ⟨k + 1, ?_⟩
  unfold sha_Prime.f
  rw [if_neg h0, if_neg (by omega), decide_eq_false (by omega), sha_Prime.j0, if_neg (by simp), Int.toNat_natCast]
  exact hk
theorem prime_c (i : Int) (w : World) : Calls Try.prog 52 #[.int .i64 i] w (Tells w (Is (.int .u32 (primeI i)))) := by
  obtain ⟨k, hk⟩ := prime_f i
  exact tells_is ((sha_Prime.calls k i _ w hk).mono fun _ _ ⟨h, k⟩ => ⟨h, drawn_below k⟩)
end Go.Proofs.Ytimcafohmahapaa.F

-- Arr
namespace Go.Proofs.Ytimcafohmahapaa.F
open Go Go.RowKit Go.Proofs.YtimcafohmahapaaW.PrintWords Go.Proofs.YtimcafohmahapaaW.PrintLast Go.Proofs.YtimcafohmahapaaW.PrintMore Go.Proofs.YtimcafohmahapaaR
set_option linter.unusedSimpArgs false
set_option linter.unusedVariables false
theorem Blk.setRow {w : World} {g : Nat} {t : TypeId} {cs : List Value} (h : Blk w g t cs) (c : List Value) : Blk (w.setRow g c.toArray) g t c := setRow_heap w g _ _ t (0, 0) h
theorem Blk.farRow {w : World} {g k : Nat} {t : TypeId} {cs : List Value} (h : Blk w g t cs) (hne : g ≠ k) (c : Array Value) : Blk (w.setRow k c) g t cs := (setRow_other w k g c hne).trans h
theorem Upd.setRow {S : Nat → Prop} {a b : World} {g : Nat} (h : Upd S a b) (hp : S g ∨ a.heap.size ≤ g) (c : Array Value) : Upd S a (b.setRow g c) :=
  ⟨h.os, h.tape, h.output, by rw [setRow_size]; exact h.size, fun k hk hn => by
    rw [setRow_other _ _ _ _ (fun e => by subst e; rcases hp with hp | hp; exact hn hp; omega)]; exact h.block k hk hn⟩
theorem Grew.setRow {a b : World} {g : Nat} (h : Grew a b) (hp : a.heap.size ≤ g) (c : Array Value) : Grew a (b.setRow g c) :=
  ⟨h.os, h.tape, h.output, by rw [setRow_size]; exact h.size, fun k hk => by rw [setRow_other _ _ _ _ (by omega)]; exact h.block k hk⟩
theorem wpList_load_blk {P : Program} {ops : Array Oper} {rest : List Oper} {o : Oper} {a : Act} {w : World} {Q : Exit → Act → World → Prop} {cs : List Value} {t : TypeId} {g : Nat} (hg : Blk w g t cs) (hgd : o.guard = none) (ty : TypeId) (x : Operand) (ho : o.op = .load ty x)
    (hx : a.eval x = .pointer (some ⟨g, 0, none⟩)) (d : TypeDesc)
    (hu : P.underlying ty = some d) (hd : d.isRow = true) (hi : (P.info? ty).map (·.size) = some cs.length)
    (h : wpList P ops Q rest (a.put o.dst (.agg cs.toArray)) w) : wpList P ops Q (o :: rest) a w :=
  wpList_load_row hgd ty x ho g hx t cs.toArray (0, 0) d hg hu (by cases d <;> simp_all) (by simpa using hi) h
theorem wpList_store_blk {P : Program} {ops : Array Oper} {rest : List Oper} {o : Oper} {a : Act} {w : World} {Q : Exit → Act → World → Prop} {cs c : List Value} {t : TypeId} {g : Nat} (hg : Blk w g t cs) (hgd : o.guard = none) (ty : TypeId) (x y : Operand) (ho : o.op = .store ty x y)
    (hx : a.eval x = .pointer (some ⟨g, 0, none⟩)) (hy : a.eval y = .agg c.toArray) (hi : (P.info? ty).map (·.size) = some c.length)
    (hl : cs.length = c.length) (h1 : c.toArray.all (·.oneCell') = true)
    (h : wpList P ops Q rest (a.put o.dst undef) (w.setRow g c.toArray)) : wpList P ops Q (o :: rest) a w :=
  wpList_store_row hgd ty x y ho g c.toArray hx hy t cs.toArray hg (by simpa using hi) (by simpa using hl) h1 h
theorem results_blk {P : Program} {fn : Func} {p : Tmp} {ty : TypeId} (h : fn.results = #[.cell p ty]) (tmps : Array Value) {w : World} {g : Nat} {t : TypeId} {cs : List Value} (hg : Blk w g t cs) (d : TypeDesc)
    (hp : tmps.getD p undef = .pointer (some ⟨g, 0, none⟩))
    (hu : P.underlying ty = some d) (hd : d.isRow = true) (hi : (P.info? ty).map (·.size) = some cs.length) :
    (results fn tmps).run P w = .ok (.agg cs.toArray) w :=
  results_cell_row h tmps w g t cs.toArray (0, 0) d hp hg hu (by cases d <;> simp_all) (by simpa using hi)
theorem run_index_arr {P : Program} (w : World) (t e : TypeId) (n : Nat) (cs : List Value) (k : IntKind) (i : Nat) (v : Value) (h : P.underlying t = some (.array n e)) (hs : ∀ w', Sem.run P (sizeOf e) w' = .ok 1 w') (ha : ∀ w', Sem.run P (isAgg e) w' = .ok false w') (hi : i < n) (hv : cs[i]? = some v) :
    (Instr.index t (.agg cs.toArray) (.int k (i : Int))).run P w = .ok v w := by
  have hn : (0 : Int) ≤ (i : Int) ∧ (i : Int) < (n : Int) := by omega
  simp [Instr.index, run_underlying h, asIntOf, hn, hv, hi, hs, ha, go_sem]
end Go.Proofs.Ytimcafohmahapaa.F

-- ShaK
namespace Go.Proofs.Ytimcafohmahapaa.F
open Go Go.RowKit Go.Proofs.YtimcafohmahapaaW.PrintWords Go.Proofs.YtimcafohmahapaaW.PrintLast Go.Proofs.YtimcafohmahapaaW.PrintMore Go.Proofs.YtimcafohmahapaaR
set_option linter.unusedSimpArgs false
set_option linter.unusedVariables false
set_option maxRecDepth 100000
/-- words as cells -/
def wcells (l : List Nat) : List Value := l.map (fun n : Nat => Value.int .u32 (n : Int))
theorem wcells_len (l : List Nat) : (wcells l).length = l.length := by simp [wcells]
/-- a prime's word -/
def rootw (p : Nat) : Nat := rootL p true 49 0 % 4294967296
/-- the words of the primes below a number -/
def kAt (p : Nat) : List Nat := ((List.range' 2 (p - 2)).filter wholeN).map rootw
/-- the words of the first sixty-four primes -/
def kL : List Nat := kAt 312
/-- filled up to sixty-four -/
def arr64 (l : List Nat) : List Nat := l ++ List.replicate (64 - l.length) 0
theorem kAt_len (p : Nat) : (kAt p).length = cnt p := by simp [kAt, cnt]
theorem kAt_succ (p : Nat) (hp : 2 ≤ p) : kAt (p + 1) = kAt p ++ (if wholeN p = true then [rootw p] else []) := by
  unfold kAt
  rw [show p + 1 - 2 = (p - 2) + 1 from by omega, List.range'_concat, List.filter_append, List.map_append]
  congr 1
  rw [show 2 + 1 * (p - 2) = p from by omega]
  by_cases h : wholeN p = true <;> simp [h]
theorem cnt_mono : ∀ (j p : Nat), 2 ≤ p → cnt p ≤ cnt (p + j) := by
  intro j
  induction j with
  | zero => intro p hp; exact Nat.le_refl _
  | succ j ih =>
    intro p hp
    have h1 := ih p hp
    have h2 := cnt_succ (p + j) (by omega)
    rw [← Nat.add_assoc]
    omega
theorem cnt_312 : cnt 312 = 64 ∧ cnt 311 = 63 := by decide +kernel
theorem cnt_low (p : Nat) (h2 : 2 ≤ p) (h : p ≤ 312) : cnt p ≤ 64 ∧ (cnt p < 64 → p < 312) ∧ (64 ≤ cnt p → p = 312) := by
  have h1 := cnt_mono (312 - p) p h2
  rw [show p + (312 - p) = 312 from by omega, cnt_312.1] at h1
  refine ⟨h1, fun h3 => ?_, fun h3 => ?_⟩
  · rcases Nat.lt_or_ge p 312 with h4 | h4
    · exact h4
    · have : p = 312 := by omega
      subst this; rw [cnt_312.1] at h3; omega
  · rcases Nat.lt_or_ge p 312 with h4 | h4
    · have h5 := cnt_mono (311 - p) p h2
      rw [show p + (311 - p) = 311 from by omega, cnt_312.2] at h5
      omega
    · omega
theorem arr_len (l : List Nat) (h : l.length ≤ 64) : (arr64 l).length = 64 := by simp [arr64]; omega
theorem arr_set (l : List Nat) (h : l.length < 64) (x : Nat) : (wcells (arr64 l)).set l.length (.int .u32 (x : Int)) = wcells (arr64 (l ++ [x])) := by
  unfold wcells arr64
  rw [List.map_append, List.set_append_right _ _ (by simp), show 64 - l.length = (64 - (l ++ [x]).length) + 1 from by simp; omega, List.replicate_succ]
  simp
theorem kL_len : kL.length = 64 := by unfold kL; rw [kAt_len]; exact cnt_312.1
theorem arr_kL : arr64 (kAt 312) = kL := by unfold arr64; rw [kAt_len, cnt_312.1]; simp [kL]
theorem cells_get (l : List Nat) (i : Nat) (h : i < l.length) : (wcells l)[i]? = some (.int .u32 ((l.getD i 0 : Nat) : Int)) := by
  simp [wcells, List.getD, h]
theorem wcells_one (l : List Nat) : (wcells l).toArray.all (·.oneCell') = true := by
  refine all_oneCell_toArray fun v hv => ?_
  obtain ⟨n, -, rfl⟩ := List.mem_map.1 hv
  rfl
theorem zeros64 : #[Value.int IntKind.u32 0, Value.int IntKind.u32 0, Value.int IntKind.u32 0, Value.int IntKind.u32 0, Value.int IntKind.u32 0, Value.int IntKind.u32 0, Value.int IntKind.u32 0, Value.int IntKind.u32 0, Value.int IntKind.u32 0, Value.int IntKind.u32 0, Value.int IntKind.u32 0, Value.int IntKind.u32 0, Value.int IntKind.u32 0, Value.int IntKind.u32 0, Value.int IntKind.u32 0, Value.int IntKind.u32 0, Value.int IntKind.u32 0, Value.int IntKind.u32 0, Value.int IntKind.u32 0, Value.int IntKind.u32 0, Value.int IntKind.u32 0, Value.int IntKind.u32 0, Value.int IntKind.u32 0, Value.int IntKind.u32 0, Value.int IntKind.u32 0, Value.int IntKind.u32 0, Value.int IntKind.u32 0, Value.int IntKind.u32 0, Value.int IntKind.u32 0, Value.int IntKind.u32 0, Value.int IntKind.u32 0, Value.int IntKind.u32 0, Value.int IntKind.u32 0, Value.int IntKind.u32 0, Value.int IntKind.u32 0, Value.int IntKind.u32 0, Value.int IntKind.u32 0, Value.int IntKind.u32 0, Value.int IntKind.u32 0, Value.int IntKind.u32 0, Value.int IntKind.u32 0, Value.int IntKind.u32 0, Value.int IntKind.u32 0, Value.int IntKind.u32 0, Value.int IntKind.u32 0, Value.int IntKind.u32 0, Value.int IntKind.u32 0, Value.int IntKind.u32 0, Value.int IntKind.u32 0, Value.int IntKind.u32 0, Value.int IntKind.u32 0, Value.int IntKind.u32 0, Value.int IntKind.u32 0, Value.int IntKind.u32 0, Value.int IntKind.u32 0, Value.int IntKind.u32 0, Value.int IntKind.u32 0, Value.int IntKind.u32 0, Value.int IntKind.u32 0, Value.int IntKind.u32 0, Value.int IntKind.u32 0, Value.int IntKind.u32 0, Value.int IntKind.u32 0, Value.int IntKind.u32 0] = (wcells (arr64 [])).toArray := by rfl
set_option maxHeartbeats 2000000 in
theorem roots_c (w : World) : Calls Try.prog 50 #[] w (Tells w (Is (.agg (wcells kL).toArray))) := by
  go_enter Try.func50, Try.ntmps50
  go_wp2_with fail
  rw [zeros64]
  have hb0 : Blk ((w.alloc (.cells (wcells (arr64 [])).toArray 89)).alloc (.cells (wcells (arr64 [])).toArray 89)) w.heap.size 89 (wcells (arr64 [])) := (Blk.new w _ _).grew (Grew.alloc _ _)
  have hb1 : Blk ((w.alloc (.cells (wcells (arr64 [])).toArray 89)).alloc (.cells (wcells (arr64 [])).toArray 89)) (w.heap.size + 1) 89 (wcells (arr64 [])) := by simpa using Blk.new (w.alloc (.cells (wcells (arr64 [])).toArray 89)) 89 (wcells (arr64 []))
  have hgw : Grew w ((w.alloc (.cells (wcells (arr64 [])).toArray 89)).alloc (.cells (wcells (arr64 [])).toArray 89)) := (Grew.alloc _ _).trans (Grew.alloc _ _)
  obtain ⟨W, hW⟩ : ∃ W, W = ((w.alloc (.cells (wcells (arr64 [])).toArray 89)).alloc (.cells (wcells (arr64 [])).toArray 89)) := ⟨_, rfl⟩
  rw [← hW] at hb0 hb1 hgw ⊢
  clear hW
  have hk2 : kAt 2 = [] := rfl
  rw [← hk2] at hb1
  go_loopw [2, 3] (fun nv pv wr => ∃ p : Nat, 2 ≤ p ∧ p ≤ 312 ∧ pv = .int .u32 (p : Int) ∧ nv = .int .i64 ((cnt p : Nat) : Int) ∧ Blk wr w.heap.size 89 (wcells (arr64 [])) ∧ Blk wr (w.heap.size + 1) 89 (wcells (arr64 (kAt p))) ∧ Grew w wr) (fun _ pv _ => 312 - (intOf pv).toNat)
  case atStart => exact ⟨2, by omega, by omega, rfl, rfl, hb0, hb1, hgw⟩
  case round =>
    obtain ⟨p, h2, h312, rfl, rfl, hz, hk, hg⟩ := hrel
    have hc := cnt_low p h2 h312
    by_cases hlt : cnt p < 64
    · have d1 : decide (((cnt p : Nat) : Int) < 64) = true := decide_eq_true (by omega)
      have hp3 := hc.2.1 hlt
      go_wp2_with fail
      obtain ⟨wo, hwo⟩ : ∃ wo : World, wo = wr := ⟨_, rfl⟩
      go_loopw [4, 5] (fun bv dv wq => ∃ (d : Nat) (b : Bool), dv = .int .u32 (d : Int) ∧ 2 ≤ d ∧ d ≤ 25 ∧ bv = .bool b ∧ (b && restOK p d) = restOK p 2 ∧ wq = wo) (fun _ dv _ => 25 - (intOf dv).toNat)
      case atStart => exact ⟨2, true, rfl, by omega, by omega, rfl, rfl, hwo.symm⟩
      case round =>
        obtain ⟨d, b, rfl, h2d, h25, rfl, hbr, rfl⟩ := hrel
        have hsq : d * d ≤ 25 * 25 := Nat.mul_le_mul h25 h25
        have hmul : IntKind.u32.wrap ((d : Int) * (d : Int)) = ((d * d : Nat) : Int) := by
          rw [show (d : Int) * (d : Int) = ((d * d : Nat) : Int) from by simp, IntWalk.u32_in _ (by omega)]
        obtain ⟨q, hq⟩ : ∃ q, q = d * d := ⟨_, rfl⟩
        rw [← hq] at hmul hsq
        by_cases hle : q ≤ p
        · have hd25 : d < 25 := by
            rcases Nat.lt_or_ge d 25 with h | h
            · exact h
            · have : d = 25 := by omega
              subst this; omega
          have hrs := rest_step p d hd25
          rw [← hq, decide_eq_false (by omega : ¬ p < q), Bool.false_or] at hrs
          have d2 : decide ((q : Int) ≤ (p : Int)) = true := decide_eq_true (by omega)
          have ht : Int.tmod (p : Int) (d : Int) = ((p % d : Nat) : Int) := by rw [Int.tmod_eq_emod_of_nonneg (by omega)]; simp
          have HRS := Lib.hid hrs
          have HBR := Lib.hid hbr
          clear hrs hbr hq hsq hc hk hz hg hb0 hb1 hgw hk2 hwo
          cases b
          · go_wp2_with fail
            go_roundw
            case rel => exact ⟨d + 1, false, by go_num, by omega, by omega, rfl, by rw [Bool.false_and]; have := HBR.out; rwa [Bool.false_and] at this, trivial⟩
            case measure => simp [intOf]; omega
          · go_wp2_with fail
            go_roundw
            case rel =>
              refine ⟨d + 1, ((p : Int) % (d : Int) != 0), by go_num, by omega, by omega, rfl, ?_, trivial⟩
              have h1 := HBR.out
              rw [HRS.out, Bool.true_and] at h1
              rw [← h1]
              congr 1
              rw [Bool.eq_iff_iff]; simp; omega
            case measure => simp [intOf]; omega
        · have d2 : decide ((q : Int) ≤ (p : Int)) = false := decide_eq_false (by omega)
          subst hwo
          rw [rest_done p _ d rfl (by omega), Bool.and_true, ← whole_rest ⟨p, by omega⟩ h2] at hbr
          replace hbr : b = wholeN p := hbr
          have hks := kAt_succ p h2
          have hcs := cnt_succ p h2
          clear hb0 hb1 hgw hk2 hq hsq
          cases hw : wholeN p
          · rw [hw] at hbr hks hcs
            subst hbr
            rw [if_neg (by simp), List.append_nil] at hks
            rw [if_neg (by simp), Nat.add_zero] at hcs
            have HK := Lib.hid hk
            have HZ := Lib.hid hz
            have HKS := Lib.hid hks
            have HCS := Lib.hid hcs
            clear hk hz hks hcs hw hc
            go_wp2_with fail
            go_roundw
            case rel => exact ⟨p + 1, by omega, by omega, by go_num, by rw [HCS.out, Nat.add_zero], HZ.out, by rw [HKS.out]; exact HK.out, hg⟩
            case measure => simp [intOf]; omega
          · rw [hw] at hbr hks hcs
            subst hbr
            rw [if_pos rfl] at hks hcs
            have HK := Lib.hid hk
            have HZ := Lib.hid hz
            have HKS := Lib.hid hks
            have HCS := Lib.hid hcs
            clear hk hz hks hcs hw hc
            go_wp2_with fail
            have hrc : Calls Try.prog 51 #[.int .u32 p, .bool true] wr (Tells wr (Is (.int .u32 ((rootw p : Nat) : Int)))) := root_c p (by omega) true wr
            refine hrc.mono ?_
            rintro e w2 ⟨_, rfl, rfl, hg2⟩
            have hk2 := HK.out.grew hg2
            have hz2 := HZ.out.grew hg2
            have hlen : (arr64 (kAt p)).length = 64 := arr_len _ (by rw [kAt_len]; omega)
            have c1 := hk2.at_ (cnt p)
            rw [cells_get _ _ (by omega)] at c1
            have c2 := hk2.fz (cnt p)
            clear hrc
            go_wp2_with fail
            go_roundw
            case rel =>
              refine ⟨p + 1, by omega, by omega, by go_num, by rw [HCS.out]; simp, hz2.far (by simp) _, ?_, ((Upd.of_grew (S := fun _ => False) (hg.trans hg2)).set (.inr (by simp)) _).grew (by simp)⟩
              have h5 := hk2.set (cnt p) (.int .u32 ((rootw p : Nat) : Int))
              have h6 := arr_set (kAt p) (by rw [kAt_len]; omega) (rootw p)
              rw [kAt_len] at h6
              rw [h6, ← HKS.out] at h5
              exact h5
            case measure => simp [intOf]; omega
    · have d1 : decide (((cnt p : Nat) : Int) < 64) = false := decide_eq_false (by omega)
      obtain rfl : p = 312 := hc.2.2 (by omega)
      rw [arr_kL] at hk
      have HK := Lib.hid hk
      have HZ := Lib.hid hz
      clear hk hz hc hb0 hb1 hk2 hgw
      go_wp2_with (first
        | refine wpList_load_blk HK.out (by rfl) 89 (.tmp 1) (by rfl) (by rfl) _ Try.underlying89 (by rfl) (by rw [wcells_len, kL_len]; kernel_rfl) ?_
        | refine wpList_store_blk (c := wcells kL) HZ.out (by rfl) 89 (.tmp 0) (.tmp 31) (by rfl) (by rfl) (by rfl) (by rw [wcells_len, kL_len]; kernel_rfl) (by rw [wcells_len, wcells_len, kL_len]; rfl) (wcells_one kL) ?_)
      refine bodyPost_ret (results_blk rfl _ (HZ.out.setRow (wcells kL)) _ (by rfl) Try.underlying89 (by rfl) (by rw [wcells_len, kL_len]; kernel_rfl)) rfl ?_
      exact ⟨_, rfl, rfl, Grew.setRow hg (Nat.le_refl _) _⟩
end Go.Proofs.Ytimcafohmahapaa.F
