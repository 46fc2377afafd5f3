/- The row of the law LinkNils: for every input the law's call returns true, whatever memory; no condition. Out of the contract LinkNils_c. -/
import Derived.Test.YteaefambkagpbaaSA
import Derived.Test.YteaefambkagpbaaSC
import Derived.Test.YteaefambkagpbaaWEqStruct
import Derived.Test.YteaefambkagpbaaWArr
import Derived.SizedLaws
import Derived.ChangeSlices
import Derived.WideKeyArr2
import Derived.WalkKit
import Derived.ProofKit
import Derived.OpenShut
import Derived.Test.YteaefambkagpbaaRows
import Derived.ShutString
import Derived.ChangeOld
import Derived.Below
import Derived.Test.YteaefambkagpbaaWSized
import Derived.Lib.SmallJoins

-- F29
namespace Go.Proofs.Yteaefambkagpbaa.F
open Go.RowKit Go.Proofs.YteaefambkagpbaaW.PrintWords Go.Proofs.YteaefambkagpbaaW.PrintLast Go.Proofs.YteaefambkagpbaaW.PrintMore
attribute [local go_sem] max2_int min2_int max_two min_two max_three min_three max_four min_four   -- for this text's walks alone
set_option linter.unusedVariables false
set_option linter.unusedSimpArgs false

/-! ### strongroomlaw26_message: function 29 -/
mutual
def strongroomlaw26_message.j0 : Nat → Int → Bool → Int → Int → Int → Int → Int → Bool → Int → Bool → ByteArray → Int → Option (ByteArray)
  | 0, _, _, _, _, _, _, _, _, _, _, _, _ => none
  | k + 1, x3, x13, x199000, x199001, x199002, x199003, x199004, x199005, x199006, x199007, x199008, x199009 => if x13 = true then (strongroomlaw26_message.j1 k 0 x199000 x199001 x199002 x199003 x199004 x199005 x199006 x199007 x199008 x199009) else (strongroomlaw26_message.j1 k x3 x199000 x199001 x199002 x199003 x199004 x199005 x199006 x199007 x199008 x199009)
def strongroomlaw26_message.j1 : Nat → Int → Int → Int → Int → Int → Int → Bool → Int → Bool → ByteArray → Int → Option (ByteArray)
  | 0, _, _, _, _, _, _, _, _, _, _, _ => none
  | k + 1, x3, x199000, x199001, x199002, x199003, x199004, x199005, x199006, x199007, x199008, x199009 => if 0 ≤ x3 then (if (x3 : Int).toNat ≤ 281474976710656 then (strongroomlaw26_message.l0 k x3 (List.replicate (x3 : Int).toNat 0) 0 x199000 x199001 x199002 x199003 x199004 x199005 x199006 x199007 x199008 x199009) else (none)) else (none)
def strongroomlaw26_message.l0 : Nat → Int → List Int → Int → Int → Int → Int → Int → Int → Bool → Int → Bool → ByteArray → Int → Option (ByteArray)
  | 0, _, _, _, _, _, _, _, _, _, _, _, _, _ => none
  | k + 1, x3, x4, x5, x199000, x199001, x199002, x199003, x199004, x199005, x199006, x199007, x199008, x199009 => if x5 < x3 then (if 0 ≤ x5 then (if x5 < (x4.length : Int) then (strongroomlaw26_message.l0 k x3 (x4.set (x5 : Int).toNat x199004) (wrap64 (x5 + 1)) x199000 x199001 x199002 x199003 x199004 x199005 x199006 x199007 x199008 x199009) else (none)) else (none)) else (some (strOfNums x4))
end
def strongroomlaw26_message.f (k : Nat) (a0_0 : Int) (a0_1 : Int) (a0_2 : Int) (a0_3 : Int) (a0_4 : Int) (a0_5 : Bool) (a0_6 : Int) (a0_7 : Bool) (a0_8 : ByteArray) (a0_9 : Int) : Option (ByteArray) := if a0_1 < 0 then (strongroomlaw26_message.j0 k a0_1 true a0_0 a0_1 a0_2 a0_3 a0_4 a0_5 a0_6 a0_7 a0_8 a0_9) else (strongroomlaw26_message.j0 k a0_1 (decide (a0_1 > 5000)) a0_0 a0_1 a0_2 a0_3 a0_4 a0_5 a0_6 a0_7 a0_8 a0_9)
theorem strongroomlaw26_message.mono_l : ∀ k, (∀ y0 y1 y2 y3 y4 y5 y6 y7 y8 y9 y10 y11, LeO (strongroomlaw26_message.j0 k y0 y1 y2 y3 y4 y5 y6 y7 y8 y9 y10 y11) (strongroomlaw26_message.j0 (k + 1) y0 y1 y2 y3 y4 y5 y6 y7 y8 y9 y10 y11)) ∧ (∀ y0 y1 y2 y3 y4 y5 y6 y7 y8 y9 y10, LeO (strongroomlaw26_message.j1 k y0 y1 y2 y3 y4 y5 y6 y7 y8 y9 y10) (strongroomlaw26_message.j1 (k + 1) y0 y1 y2 y3 y4 y5 y6 y7 y8 y9 y10)) ∧ (∀ y0 y1 y2 y3 y4 y5 y6 y7 y8 y9 y10 y11 y12, LeO (strongroomlaw26_message.l0 k y0 y1 y2 y3 y4 y5 y6 y7 y8 y9 y10 y11 y12) (strongroomlaw26_message.l0 (k + 1) y0 y1 y2 y3 y4 y5 y6 y7 y8 y9 y10 y11 y12))
  | 0 => ⟨fun _ _ _ _ _ _ _ _ _ _ _ _ r h => by simp [strongroomlaw26_message.j0] at h, fun _ _ _ _ _ _ _ _ _ _ _ r h => by simp [strongroomlaw26_message.j1] at h, fun _ _ _ _ _ _ _ _ _ _ _ _ _ r h => by simp [strongroomlaw26_message.l0] at h⟩
  | k + 1 => by
    obtain ⟨ih0, ih1, ih2⟩ := strongroomlaw26_message.mono_l k
    refine ⟨?_, ?_, ?_⟩
    · intro y0 y1 y2 y3 y4 y5 y6 y7 y8 y9 y10 y11
      unfold strongroomlaw26_message.j0
      repeat' first
      | (with_reducible exact ih0 _ _ _ _ _ _ _ _ _ _ _ _)
      | (with_reducible exact ih1 _ _ _ _ _ _ _ _ _ _ _)
      | (with_reducible exact ih2 _ _ _ _ _ _ _ _ _ _ _ _ _)
      | (with_reducible exact LeO.refl _)
      | (with_reducible exact LeO.none _)
      | (with_reducible refine LeO.ite ?_ ?_)
      | (with_reducible refine LeO.bind ?_ (fun _ => ?_))
      | exact ih0 _ _ _ _ _ _ _ _ _ _ _ _
      | exact ih1 _ _ _ _ _ _ _ _ _ _ _
      | exact ih2 _ _ _ _ _ _ _ _ _ _ _ _ _
      | exact LeO.none _
      | refine LeO.ite ?_ ?_
      | refine LeO.bind ?_ (fun _ => ?_)
    · intro y0 y1 y2 y3 y4 y5 y6 y7 y8 y9 y10
      unfold strongroomlaw26_message.j1
      repeat' first
      | (with_reducible exact ih0 _ _ _ _ _ _ _ _ _ _ _ _)
      | (with_reducible exact ih1 _ _ _ _ _ _ _ _ _ _ _)
      | (with_reducible exact ih2 _ _ _ _ _ _ _ _ _ _ _ _ _)
      | (with_reducible exact LeO.refl _)
      | (with_reducible exact LeO.none _)
      | (with_reducible refine LeO.ite ?_ ?_)
      | (with_reducible refine LeO.bind ?_ (fun _ => ?_))
      | exact ih0 _ _ _ _ _ _ _ _ _ _ _ _
      | exact ih1 _ _ _ _ _ _ _ _ _ _ _
      | exact ih2 _ _ _ _ _ _ _ _ _ _ _ _ _
      | exact LeO.none _
      | refine LeO.ite ?_ ?_
      | refine LeO.bind ?_ (fun _ => ?_)
    · intro y0 y1 y2 y3 y4 y5 y6 y7 y8 y9 y10 y11 y12
      unfold strongroomlaw26_message.l0
      repeat' first
      | (with_reducible exact ih0 _ _ _ _ _ _ _ _ _ _ _ _)
      | (with_reducible exact ih1 _ _ _ _ _ _ _ _ _ _ _)
      | (with_reducible exact ih2 _ _ _ _ _ _ _ _ _ _ _ _ _)
      | (with_reducible exact LeO.refl _)
      | (with_reducible exact LeO.none _)
      | (with_reducible refine LeO.ite ?_ ?_)
      | (with_reducible refine LeO.bind ?_ (fun _ => ?_))
      | exact ih0 _ _ _ _ _ _ _ _ _ _ _ _
      | exact ih1 _ _ _ _ _ _ _ _ _ _ _
      | exact ih2 _ _ _ _ _ _ _ _ _ _ _ _ _
      | exact LeO.none _
      | refine LeO.ite ?_ ?_
      | refine LeO.bind ?_ (fun _ => ?_)
theorem strongroomlaw26_message.mono : ∀ a0 a1 a2 a3 a4 a5 a6 a7 a8 a9 k, LeO (strongroomlaw26_message.f k a0 a1 a2 a3 a4 a5 a6 a7 a8 a9) (strongroomlaw26_message.f (k + 1) a0 a1 a2 a3 a4 a5 a6 a7 a8 a9) := by
  intro a0 a1 a2 a3 a4 a5 a6 a7 a8 a9 k
  obtain ⟨ih0, ih1, ih2⟩ := strongroomlaw26_message.mono_l k
  unfold strongroomlaw26_message.f
  repeat' first
      | (with_reducible exact ih0 _ _ _ _ _ _ _ _ _ _ _ _)
      | (with_reducible exact ih1 _ _ _ _ _ _ _ _ _ _ _)
      | (with_reducible exact ih2 _ _ _ _ _ _ _ _ _ _ _ _ _)
      | (with_reducible exact LeO.refl _)
      | (with_reducible exact LeO.none _)
      | (with_reducible refine LeO.ite ?_ ?_)
      | (with_reducible refine LeO.bind ?_ (fun _ => ?_))
      | exact ih0 _ _ _ _ _ _ _ _ _ _ _ _
      | exact ih1 _ _ _ _ _ _ _ _ _ _ _
      | exact ih2 _ _ _ _ _ _ _ _ _ _ _ _ _
      | exact LeO.none _
      | refine LeO.ite ?_ ?_
      | refine LeO.bind ?_ (fun _ => ?_)
set_option maxHeartbeats 8000000 in
set_option maxRecDepth 100000 in
theorem strongroomlaw26_message.calls (k : Nat) (a0_0 : Int) (a0_1 : Int) (a0_2 : Int) (a0_3 : Int) (a0_4 : Int) (a0_5 : Bool) (a0_6 : Int) (a0_7 : Bool) (a0_8 : ByteArray) (a0_9 : Int) (r : ByteArray) (w : World) (h : strongroomlaw26_message.f k a0_0 a0_1 a0_2 a0_3 a0_4 a0_5 a0_6 a0_7 a0_8 a0_9 = some r) :
    Calls Try.prog 29 #[.agg #[.int .i64 a0_0, .int .i64 a0_1, .int .i64 a0_2, .int .i64 a0_3, .int .u8 a0_4, .bool a0_5, .int .i64 a0_6, .bool a0_7, .string a0_8, .int .i64 a0_9]] w fun e w' => e = .returned (.string r) ∧ Below w.heap.size w w' := by
  have hu59 := Try.underlying59
  have HB := Aside0.mk (Below.refl w.heap.size w)
  have H : (if a0_1 < 0 then (strongroomlaw26_message.j0 k a0_1 true a0_0 a0_1 a0_2 a0_3 a0_4 a0_5 a0_6 a0_7 a0_8 a0_9) else (strongroomlaw26_message.j0 k a0_1 (decide (a0_1 > 5000)) a0_0 a0_1 a0_2 a0_3 a0_4 a0_5 a0_6 a0_7 a0_8 a0_9)) = some r := h
  clear h
  have HC2 := Aside0.mk H
  clear H
  go_enter Try.func29, Try.ntmps29
  go_upto_region 2 with (first | ((with_reducible refine gate_dst (N := 1) rfl ?_); refine box_event ?hg (N := 1) ?hd (cs := #[.int .i64 a0_0, .int .i64 a0_1, .int .i64 a0_2, .int .i64 a0_3, .int .u8 a0_4, .bool a0_5, .int .i64 a0_6, .bool a0_7, .string a0_8, .int .i64 a0_9]) (t := 59) ?hr ?_; (case hd => rfl); (case hg => rfl); (case hr => first | (go_simp; done) | (go_simp; rfl)); intro gb198 hg w3 hbox hb; have n0_ := Aside0.mk (below_step (by repeat (first | (with_reducible first | exact HB.out | apply below_alloc | apply pw_below_drewN | apply below_drew1) | exact HB.out)) hb); have n1_ := Aside0.mk (hbox); have n2_ := Aside0.mk ((by rw [hg]; exact (below_size (by repeat (first | (with_reducible first | exact HB.out | apply below_alloc | apply pw_below_drewN | apply below_drew1) | exact HB.out))) : w.heap.size ≤ gb198)); have n3_ := Aside0.mk ((by rw [hg]; exact (below_size (by repeat (first | (with_reducible first | exact HB.out | apply below_alloc | apply pw_below_drewN | apply below_drew1) | exact HB.out))) : w.heap.size ≤ gb198)); clear HB; have HB := n0_; have BK198 := n1_; have GW198 := n2_; have GE198 := n3_; clear n0_ n1_ n2_ n3_; clear hb hbox hg; have hcz4_0 : w3.cell? ⟨gb198, 0, none⟩ = some (.int .i64 a0_0) := (blk_cell BK198.out 0).trans rfl; have hcz4_1 : w3.cell? ⟨gb198, 1, none⟩ = some (.int .i64 a0_1) := (blk_cell BK198.out 1).trans rfl; have hcz4_2 : w3.cell? ⟨gb198, 2, none⟩ = some (.int .i64 a0_2) := (blk_cell BK198.out 2).trans rfl; have hcz4_3 : w3.cell? ⟨gb198, 3, none⟩ = some (.int .i64 a0_3) := (blk_cell BK198.out 3).trans rfl; have hcz4_4 : w3.cell? ⟨gb198, 4, none⟩ = some (.int .u8 a0_4) := (blk_cell BK198.out 4).trans rfl; have hcz4_5 : w3.cell? ⟨gb198, 5, none⟩ = some (.bool a0_5) := (blk_cell BK198.out 5).trans rfl; have hcz4_6 : w3.cell? ⟨gb198, 6, none⟩ = some (.int .i64 a0_6) := (blk_cell BK198.out 6).trans rfl; have hcz4_7 : w3.cell? ⟨gb198, 7, none⟩ = some (.bool a0_7) := (blk_cell BK198.out 7).trans rfl; have hcz4_8 : w3.cell? ⟨gb198, 8, none⟩ = some (.string a0_8) := (blk_cell BK198.out 8).trans rfl; have hcz4_9 : w3.cell? ⟨gb198, 9, none⟩ = some (.int .i64 a0_9) := (blk_cell BK198.out 9).trans rfl; have hfz4_0 := blk_frozen BK198.out 0; have hfz4_1 := blk_frozen BK198.out 1; have hfz4_2 := blk_frozen BK198.out 2; have hfz4_3 := blk_frozen BK198.out 3; have hfz4_4 := blk_frozen BK198.out 4; have hfz4_5 := blk_frozen BK198.out 5; have hfz4_6 := blk_frozen BK198.out 6; have hfz4_7 := blk_frozen BK198.out 7; have hfz4_8 := blk_frozen BK198.out 8; have hfz4_9 := blk_frozen BK198.out 9))
  (try simp only [Act.put, List.setIfInBounds_toArray, List.set_cons_zero, List.set_cons_succ])
  go_cut [13] (fun v13 wc => ∃ (kq : Nat) (x13_1 : Bool), v13 = .bool x13_1 ∧ Aside0 (strongroomlaw26_message.j0 kq a0_1 x13_1 a0_0 a0_1 a0_2 a0_3 a0_4 a0_5 a0_6 a0_7 a0_8 a0_9 = some r) ∧ Aside0 (kq ≤ k) ∧ Aside0 (wc.heap[gb198]? = some (.cells #[.int .i64 a0_0, .int .i64 a0_1, .int .i64 a0_2, .int .i64 a0_3, .int .u8 a0_4, .bool a0_5, .int .i64 a0_6, .bool a0_7, .string a0_8, .int .i64 a0_9] 59 (0, 0))) ∧ Aside0 (Below w.heap.size w wc))
  case first =>
    have H := HC2.out
    clear HC2
    by_cases c5 : a0_1 < 0
    · rw [if_pos c5] at H
      have c5b0 : decide (a0_1 < 0) = true := decide_eq_true c5
      clear c5
      (first | rw [c5b0] | (simp only [i64_w, i32_w]; rw [c5b0]) | skip)
      have H' := Aside0.mk H
      clear H
      go_wp2
      go_meet
      case rel => exact ⟨_, (true), (by first | rfl | (simp; done) | (simp [*]; done)), H', ⟨by first | omega | exact Nat.le_refl _⟩, ⟨by (with_reducible repeat (first | refine blk_drewN ?_ _ | refine blk_drew ?_ | refine blk_alloc ?_ _)); exact BK198.out⟩, ⟨by repeat (first | (with_reducible first | exact HB.out | apply below_alloc | apply pw_below_drewN | apply below_drew1 | refine below_set ?_ GE198.out) | exact HB.out)⟩⟩
    · rw [if_neg c5] at H
      have c5b0 : decide (a0_1 < 0) = false := decide_eq_false c5
      clear c5
      (first | rw [c5b0] | (simp only [i64_w, i32_w]; rw [c5b0]) | skip)
      have H' := Aside0.mk H
      clear H
      go_wp2
      go_meet
      case rel => exact ⟨_, (decide (a0_1 > 5000)), (by first | rfl | (simp; done) | (simp [*]; done)), H', ⟨by first | omega | exact Nat.le_refl _⟩, ⟨by (with_reducible repeat (first | refine blk_drewN ?_ _ | refine blk_drew ?_ | refine blk_alloc ?_ _)); exact BK198.out⟩, ⟨by repeat (first | (with_reducible first | exact HB.out | apply below_alloc | apply pw_below_drewN | apply below_drew1 | refine below_set ?_ GE198.out) | exact HB.out)⟩⟩
  case rest =>
    clear HC2
    try clear c2
    try clear p2
    try clear c5
    try clear c5b0
    try clear hcz4_0
    try clear hcz4_1
    try clear hcz4_2
    try clear hcz4_3
    try clear hcz4_4
    try clear hcz4_5
    try clear hcz4_6
    try clear hcz4_7
    try clear hcz4_8
    try clear hcz4_9
    try clear hfz4_0
    try clear hfz4_1
    try clear hfz4_2
    try clear hfz4_3
    try clear hfz4_4
    try clear hfz4_5
    try clear hfz4_6
    try clear hfz4_7
    try clear hfz4_8
    try clear hfz4_9
    obtain ⟨kq, x13_1, rfl, HA, HJ1, BK198, HB⟩ := hcut
    cases kq with
    | zero => exact absurd HA.out (by simp [strongroomlaw26_message.j0])
    | succ kj1 =>
      have H := HA.out
      clear HA
      simp only [strongroomlaw26_message.j0] at H
      have HC6 := Aside0.mk H
      clear H
      go_upto_if 13 with (fail)
      go_cut [3] (fun v3 wc => ∃ (kq : Nat) (x3_5 : Int), v3 = .int .i64 x3_5 ∧ Aside0 (strongroomlaw26_message.j1 kq x3_5 a0_0 a0_1 a0_2 a0_3 a0_4 a0_5 a0_6 a0_7 a0_8 a0_9 = some r) ∧ Aside0 (kq ≤ kj1) ∧ Aside0 (wc.heap[gb198]? = some (.cells #[.int .i64 a0_0, .int .i64 a0_1, .int .i64 a0_2, .int .i64 a0_3, .int .u8 a0_4, .bool a0_5, .int .i64 a0_6, .bool a0_7, .string a0_8, .int .i64 a0_9] 59 (0, 0))) ∧ Aside0 (Below w.heap.size w wc))
      case first =>
        have H := HC6.out
        clear HC6
        by_cases c7 : x13_1 = true
        · subst c7
          have H1 : (strongroomlaw26_message.j1 kj1 0 a0_0 a0_1 a0_2 a0_3 a0_4 a0_5 a0_6 a0_7 a0_8 a0_9) = some r := by rw [if_pos rfl] at H; exact H
          clear H
          have H := H1
          clear H1
          have H' := Aside0.mk H
          clear H
          go_wp2
          go_meet
          case rel => exact ⟨_, (0), (by first | rfl | (simp; done) | (simp [*]; done)), H', ⟨by have := HJ1.out; first | omega | exact Nat.le_refl _⟩, ⟨by (with_reducible repeat (first | refine blk_drewN ?_ _ | refine blk_drew ?_ | refine blk_alloc ?_ _)); exact BK198.out⟩, ⟨by repeat (first | (with_reducible first | exact HB.out | apply below_alloc | apply pw_below_drewN | apply below_drew1 | refine below_set ?_ GE198.out) | exact HB.out)⟩⟩
        · replace c7 := Bool.eq_false_iff.mpr c7
          subst c7
          have H1 : (strongroomlaw26_message.j1 kj1 a0_1 a0_0 a0_1 a0_2 a0_3 a0_4 a0_5 a0_6 a0_7 a0_8 a0_9) = some r := by rw [if_neg (show ¬ (false = true) by decide)] at H; exact H
          clear H
          have H := H1
          clear H1
          have H' := Aside0.mk H
          clear H
          go_wp2
          go_meet
          case rel => exact ⟨_, (a0_1), (by first | rfl | (simp; done) | (simp [*]; done)), H', ⟨by have := HJ1.out; first | omega | exact Nat.le_refl _⟩, ⟨by (with_reducible repeat (first | refine blk_drewN ?_ _ | refine blk_drew ?_ | refine blk_alloc ?_ _)); exact BK198.out⟩, ⟨by repeat (first | (with_reducible first | exact HB.out | apply below_alloc | apply pw_below_drewN | apply below_drew1 | refine below_set ?_ GE198.out) | exact HB.out)⟩⟩
      case rest =>
        clear HC6
        try clear c2
        try clear p2
        try clear c5
        try clear c5b0
        try clear c7
        try clear hcz4_0
        try clear hcz4_1
        try clear hcz4_2
        try clear hcz4_3
        try clear hcz4_4
        try clear hcz4_5
        try clear hcz4_6
        try clear hcz4_7
        try clear hcz4_8
        try clear hcz4_9
        try clear hfz4_0
        try clear hfz4_1
        try clear hfz4_2
        try clear hfz4_3
        try clear hfz4_4
        try clear hfz4_5
        try clear hfz4_6
        try clear hfz4_7
        try clear hfz4_8
        try clear hfz4_9
        try clear p2
        obtain ⟨kq, x3_5, rfl, HA, HJ5, BK198, HB⟩ := hcut
        cases kq with
        | zero => exact absurd HA.out (by simp [strongroomlaw26_message.j1])
        | succ kj5 =>
          have H := HA.out
          clear HA
          simp only [strongroomlaw26_message.j1] at H
          by_cases c8 : 0 ≤ x3_5
          · rw [if_pos c8] at H
            have c8b0 := eq_true c8
            have c8b1 : decide (0 ≤ x3_5) = true := decide_eq_true c8
            clear c8
            by_cases c9 : (x3_5 : Int).toNat ≤ 281474976710656
            · rw [if_pos c9] at H
              have c9b0 := eq_true c9
              have c9b1 : decide ((x3_5 : Int).toNat ≤ 281474976710656) = true := decide_eq_true c9
              clear c9
              obtain ⟨y199, hy199⟩ : ∃ y_ : List Int, y_ = (List.replicate (x3_5 : Int).toNat 0) := ⟨_, rfl⟩
              replace H : (strongroomlaw26_message.l0 kj5 x3_5 y199 0 a0_0 a0_1 a0_2 a0_3 a0_4 a0_5 a0_6 a0_7 a0_8 a0_9) = some r := by first | (rw [hy199]; with_reducible exact H) | (have H2_ := (Option.bind_some _ _).symm.trans H; rw [hy199]; with_reducible exact H2_) | (have H2_ := (Option.bind_some _ _).symm.trans H; with_reducible exact H2_) | with_reducible exact H | (rw [hy199]; exact H) | exact H
              have Ny199 := Aside0.mk hy199
              clear hy199
              have H' := Aside0.mk H
              clear H
              go_wp2_with (first | ((with_reducible refine gate_dst (N := 15) rfl ?_); refine Kd.R_make (Kd.int .u8) _ 5 rfl (N := 15) rfl 24 _ _ rfl x3_5 rfl rfl Try.underlying24 (.int .u8 0) 1 info5 rfl (by decide) (by omega) 0 (ok := fun _ => True) (okp := fun _ => True) rfl (fun _ hk => hk) trivial (of_decide_eq_true (by first | (with_reducible assumption) | assumption)) (Nat.le_trans (Nat.mul_le_mul_right _ (of_decide_eq_true (by first | (with_reducible assumption) | assumption) : x3_5.toNat ≤ 281474976710656)) (by omega)) (Below.refl _ _) (Nat.le_refl _) ?_; intro v200 w10 ho11 hb hg_ hnew_; clear hg_ hnew_; (first | rw [← Ny199.out] at ho11 | (simp only [Int.reduceToNat] at ho11; rw [← Ny199.out] at ho11)); have n0_ := Aside0.mk (Kd.R_lower ho11 (below_size (by repeat (first | (with_reducible first | exact HB.out | apply below_alloc | apply pw_below_drewN | apply below_drew1 | refine below_set ?_ GE198.out) | exact HB.out)))); have n1_ := Aside0.mk (blk_below (g := gb198) (o := .cells #[.int .i64 a0_0, .int .i64 a0_1, .int .i64 a0_2, .int .i64 a0_3, .int .u8 a0_4, .bool a0_5, .int .i64 a0_6, .bool a0_7, .string a0_8, .int .i64 a0_9] 59 (0, 0)) (by (with_reducible repeat (first | refine blk_drewN ?_ _ | refine blk_drew ?_ | refine blk_alloc ?_ _)); exact BK198.out) hb); have n2_ := Aside0.mk (below_step (by repeat (first | (with_reducible first | exact HB.out | apply below_alloc | apply pw_below_drewN | apply below_drew1 | refine below_set ?_ GE198.out) | exact HB.out)) hb); clear BK198; clear HB; have HO201 := n0_; have BK198 := n1_; have HB := n2_; clear n0_ n1_ n2_; clear hb ho11))
              go_loopg [5] kj5 (fun kq v5 w' => ∃ (x4_3 : List Int) (x5_3 : Int), v5 = .int .i64 x5_3 ∧ Aside0 (strongroomlaw26_message.l0 kq x3_5 x4_3 x5_3 a0_0 a0_1 a0_2 a0_3 a0_4 a0_5 a0_6 a0_7 a0_8 a0_9 = some r) ∧ Aside0 (kq ≤ kj5) ∧ Aside0 (Kd.R (Kd.int .u8) 5 w' w.heap.size (fun _ => True) v200 x4_3) ∧ Aside0 (w'.heap[gb198]? = some (.cells #[.int .i64 a0_0, .int .i64 a0_1, .int .i64 a0_2, .int .i64 a0_3, .int .u8 a0_4, .bool a0_5, .int .i64 a0_6, .bool a0_7, .string a0_8, .int .i64 a0_9] 59 (0, 0))) ∧ Aside0 (Below w.heap.size w w'))
              case atStart => exact ⟨(y199), (0), (by first | rfl | (simp; done) | (simp [*]; done)), H', ⟨Nat.le_refl _⟩, ⟨by (with_reducible repeat (first | apply Kd.R_alloc | apply Kd.R_drewN | apply Kd.R_drew)); exact HO201.out⟩, ⟨by (with_reducible repeat (first | refine blk_drewN ?_ _ | refine blk_drew ?_ | refine blk_alloc ?_ _)); exact BK198.out⟩, ⟨by repeat (first | (with_reducible first | exact HB.out | apply below_alloc | apply pw_below_drewN | apply below_drew1 | refine below_set ?_ GE198.out) | exact HB.out)⟩⟩
              case round =>
                clear H'
                try clear c2
                try clear p2
                try clear c5
                try clear c5b0
                try clear c7
                try clear c8
                try clear c8b0
                try clear c8b1
                try clear c9
                try clear c9b0
                try clear c9b1
                try clear hcz4_0
                try clear hcz4_1
                try clear hcz4_2
                try clear hcz4_3
                try clear hcz4_4
                try clear hcz4_5
                try clear hcz4_6
                try clear hcz4_7
                try clear hcz4_8
                try clear hcz4_9
                try clear hfz4_0
                try clear hfz4_1
                try clear hfz4_2
                try clear hfz4_3
                try clear hfz4_4
                try clear hfz4_5
                try clear hfz4_6
                try clear hfz4_7
                try clear hfz4_8
                try clear hfz4_9
                try clear p2
                obtain ⟨x4_3, x5_3, rfl, HA, HK3, HO_4, BK198, HB⟩ := hrel
                cases gk with
                | zero => exact absurd HA.out (by simp [strongroomlaw26_message.l0])
                | succ k3 =>
                  have H := HA.out
                  clear HA
                  simp only [strongroomlaw26_message.l0] at H
                  by_cases c12 : x5_3 < x3_5
                  · rw [if_pos c12] at H
                    have c12b0 : decide (x5_3 < x3_5) = true := decide_eq_true c12
                    clear c12
                    by_cases c13 : 0 ≤ x5_3
                    · rw [if_pos c13] at H
                      have c13b0 : decide (0 ≤ x5_3) = true := decide_eq_true c13
                      clear c13
                      by_cases c14 : x5_3 < (x4_3.length : Int)
                      · rw [if_pos c14] at H
                        have c14b0 : decide (x5_3 < (x4_3.length : Int)) = true := decide_eq_true c14
                        clear c14
                        obtain ⟨y202, hy202⟩ : ∃ y_ : List Int, y_ = (x4_3.set (x5_3 : Int).toNat a0_4) := ⟨_, rfl⟩
                        replace H : (strongroomlaw26_message.l0 k3 x3_5 y202 (wrap64 (x5_3 + 1)) a0_0 a0_1 a0_2 a0_3 a0_4 a0_5 a0_6 a0_7 a0_8 a0_9) = some r := by first | (rw [hy202]; with_reducible exact H) | (have H2_ := (Option.bind_some _ _).symm.trans H; rw [hy202]; with_reducible exact H2_) | (have H2_ := (Option.bind_some _ _).symm.trans H; with_reducible exact H2_) | with_reducible exact H | (rw [hy202]; exact H) | exact H
                        have Ny202 := Aside0.mk hy202
                        clear hy202
                        have H' := Aside0.mk H
                        clear H
                        have hcz16_0 : wr.cell? ⟨gb198, 0, none⟩ = some (.int .i64 a0_0) := (blk_cell BK198.out 0).trans rfl
                        have hcz16_1 : wr.cell? ⟨gb198, 1, none⟩ = some (.int .i64 a0_1) := (blk_cell BK198.out 1).trans rfl
                        have hcz16_2 : wr.cell? ⟨gb198, 2, none⟩ = some (.int .i64 a0_2) := (blk_cell BK198.out 2).trans rfl
                        have hcz16_3 : wr.cell? ⟨gb198, 3, none⟩ = some (.int .i64 a0_3) := (blk_cell BK198.out 3).trans rfl
                        have hcz16_4 : wr.cell? ⟨gb198, 4, none⟩ = some (.int .u8 a0_4) := (blk_cell BK198.out 4).trans rfl
                        have hcz16_5 : wr.cell? ⟨gb198, 5, none⟩ = some (.bool a0_5) := (blk_cell BK198.out 5).trans rfl
                        have hcz16_6 : wr.cell? ⟨gb198, 6, none⟩ = some (.int .i64 a0_6) := (blk_cell BK198.out 6).trans rfl
                        have hcz16_7 : wr.cell? ⟨gb198, 7, none⟩ = some (.bool a0_7) := (blk_cell BK198.out 7).trans rfl
                        have hcz16_8 : wr.cell? ⟨gb198, 8, none⟩ = some (.string a0_8) := (blk_cell BK198.out 8).trans rfl
                        have hcz16_9 : wr.cell? ⟨gb198, 9, none⟩ = some (.int .i64 a0_9) := (blk_cell BK198.out 9).trans rfl
                        have hfz16_0 := blk_frozen BK198.out 0
                        have hfz16_1 := blk_frozen BK198.out 1
                        have hfz16_2 := blk_frozen BK198.out 2
                        have hfz16_3 := blk_frozen BK198.out 3
                        have hfz16_4 := blk_frozen BK198.out 4
                        have hfz16_5 := blk_frozen BK198.out 5
                        have hfz16_6 := blk_frozen BK198.out 6
                        have hfz16_7 := blk_frozen BK198.out 7
                        have hfz16_8 := blk_frozen BK198.out 8
                        have hfz16_9 := blk_frozen BK198.out 9
                        have p15 : 0 ≤ (x5_3 : Int) := of_decide_eq_true (by first | (with_reducible assumption) | assumption)
                        have q15 : (x5_3 : Int) < ((x4_3.length : Int) : Int) := of_decide_eq_true (by first | (with_reducible assumption) | assumption)
                        obtain ⟨go15, co15, eo15, gb15, gl15, cl15, HG15⟩ := Kd.R_form HO_4.out (by omega)
                        (first | cases eo15 | (injection eo15 with ea_ en_ ec_; (first | subst ea_ | (injection ea_ with ea_; subst ea_)); subst ec_; clear en_))
                        have GB15 := Aside0.mk gb15
                        have GG15 := Aside0.mk HG15
                        clear gb15 gl15 HG15
                        obtain ⟨hx15_0, hf15_0⟩ := Kd.R_celln 0 HO_4.out (x5_3 : Int) p15 q15
                        replace p15 := eq_true p15
                        replace q15 := eq_true q15
                        have HP17 := Kd.R_putg HO_4.out (x5_3 : Int) a0_4
                        go_wp2_with (first | ((with_reducible refine gate_store (t := 5) (p := 25) rfl ?_); refine store_event (t := 5) (p := 25) (v := ?vo_w18) (w1 := (wr.setCell ⟨go15, (x5_3 : Int).toNat, none⟩ (.int .u8 a0_4))) ?hg ?ho ?hn ?hr ?_; (case ho => rfl); (case hg => rfl); (case hn => rfl); (case hr => first | (go_simp; done) | (go_simp; rfl)); intro w18 hw; have hg : wr.grownBy w18 (some go15) := (by rw [hw]; exact HP17.2); have hp_ : Kd.R (Kd.int .u8) 5 w18 w.heap.size (fun _ => True) (.slice (some ⟨go15, 0, none⟩) x4_3.length co15) y202 := (by rw [hw, Ny202.out]; exact HP17.1); clear HP17; have n0_ := Aside0.mk (hp_); have n1_ := Aside0.mk (blk_grown (g := gb198) (o := .cells #[.int .i64 a0_0, .int .i64 a0_1, .int .i64 a0_2, .int .i64 a0_3, .int .u8 a0_4, .bool a0_5, .int .i64 a0_6, .bool a0_7, .string a0_8, .int .i64 a0_9] 59 (0, 0)) (by (with_reducible repeat (first | refine blk_drewN ?_ _ | refine blk_drew ?_ | refine blk_alloc ?_ _)); exact BK198.out) hg (Kd.R_ne HO_4.out BK198.out (by decide))); have n2_ := Aside0.mk ((by rw [hw]; exact below_set (HB.out) GB15.out : Below w.heap.size w w18)); clear HO_4; clear BK198; clear HB; have HO_4 := n0_; have BK198 := n1_; have HB := n2_; clear n0_ n1_ n2_; clear hg hw hp_))
                        go_roundg k3
                        case measure => have := HJ1.out; have := HJ5.out; have := HK3.out; omega
                        case rel => exact ⟨(y202), (wrap64 (x5_3 + 1)), (by first | rfl | (simp; done) | (simp [*]; done)), H', ⟨by have := HJ1.out; have := HJ5.out; have := HK3.out; omega⟩, ⟨by (with_reducible repeat (first | apply Kd.R_alloc | apply Kd.R_drewN | apply Kd.R_drew)); exact HO_4.out⟩, ⟨by (with_reducible repeat (first | refine blk_drewN ?_ _ | refine blk_drew ?_ | refine blk_alloc ?_ _)); exact BK198.out⟩, ⟨by repeat (first | (with_reducible first | exact HB.out | apply below_alloc | apply pw_below_drewN | apply below_drew1 | refine below_set ?_ GE198.out) | exact HB.out)⟩⟩
                      · rw [if_neg c14] at H
                        exact absurd H (by simp)
                    · rw [if_neg c13] at H
                      exact absurd H (by simp)
                  · rw [if_neg c12] at H
                    have c12b0 : decide (x5_3 < x3_5) = false := decide_eq_false c12
                    clear c12
                    obtain rfl := Option.some.inj H
                    have hcv19 := own_string (P := Try.prog) Try.underlying24 Try.underlying5 Try.underlying9 (Kd.own_of_R HO_4.out)
                    go_wp2
                    go_ret
                    exact ⟨by first | rfl | (simp [errW_none, errW_some] <;> rfl) | (simp [*, errW_none, errW_some] <;> rfl), by repeat (first | (with_reducible first | exact HB.out | apply below_alloc | apply pw_below_drewN | apply below_drew1 | refine below_set ?_ GE198.out) | exact HB.out)⟩
            · rw [if_neg c9] at H
              exact absurd H (by simp)
          · rw [if_neg c8] at H
            exact absurd H (by simp)

end Go.Proofs.Yteaefambkagpbaa.F

-- F30
namespace Go.Proofs.Yteaefambkagpbaa.F
open Go.RowKit Go.Proofs.YteaefambkagpbaaW.PrintWords Go.Proofs.YteaefambkagpbaaW.PrintLast Go.Proofs.YteaefambkagpbaaW.PrintMore
attribute [local go_sem] max2_int min2_int max_two min_two max_three min_three max_four min_four   -- for this text's walks alone
set_option linter.unusedVariables false
set_option linter.unusedSimpArgs false

/-! ### strongroomref26_Cut: function 30 -/
def strongroomref26_Cut.l0 : Nat → ByteArray → Int → List (S23) → Option ((List (S23)))
  | 0, _, _, _ => none
  | k + 1, x0, x1, x5 => if (x0.size : Int) > 200 then (if 0 ≤ 200 then (if 200 ≤ (x0.size : Int) then (if x5.length < 2932031007402 then (strongroomref26_Cut.l0 k (x0.extract 200 x0.size) (wrap64 (x1 + 1)) (x5 ++ [(⟨false, x1, false, x0.extract 0 200, 0⟩ : S23)])) else (none)) else (none)) else (none)) else (if x5.length < 2932031007402 then (some (x5 ++ [(⟨false, x1, true, x0, 0⟩ : S23)])) else (none))
def strongroomref26_Cut.f (k : Nat) (a0 : ByteArray) (a1 : Int) : Option ((List (S23))) := strongroomref26_Cut.l0 k a0 a1 ([] : List (S23))
theorem strongroomref26_Cut.mono_l : ∀ k, (∀ y0 y1 y2, LeO (strongroomref26_Cut.l0 k y0 y1 y2) (strongroomref26_Cut.l0 (k + 1) y0 y1 y2))
  | 0 => fun _ _ _ r h => by simp [strongroomref26_Cut.l0] at h
  | k + 1 => by
    have ih0 := strongroomref26_Cut.mono_l k
    · intro y0 y1 y2
      unfold strongroomref26_Cut.l0
      repeat' first
      | (with_reducible exact ih0 _ _ _)
      | (with_reducible exact LeO.refl _)
      | (with_reducible exact LeO.none _)
      | (with_reducible refine LeO.ite ?_ ?_)
      | (with_reducible refine LeO.bind ?_ (fun _ => ?_))
      | exact ih0 _ _ _
      | exact LeO.none _
      | refine LeO.ite ?_ ?_
      | refine LeO.bind ?_ (fun _ => ?_)
theorem strongroomref26_Cut.mono : ∀ a0 a1 k, LeO (strongroomref26_Cut.f k a0 a1) (strongroomref26_Cut.f (k + 1) a0 a1) := by
  intro a0 a1 k
  have ih0 := strongroomref26_Cut.mono_l k
  unfold strongroomref26_Cut.f
  repeat' first
      | (with_reducible exact ih0 _ _ _)
      | (with_reducible exact LeO.refl _)
      | (with_reducible exact LeO.none _)
      | (with_reducible refine LeO.ite ?_ ?_)
      | (with_reducible refine LeO.bind ?_ (fun _ => ?_))
      | exact ih0 _ _ _
      | exact LeO.none _
      | refine LeO.ite ?_ ?_
      | refine LeO.bind ?_ (fun _ => ?_)
set_option maxHeartbeats 8000000 in
set_option maxRecDepth 100000 in
theorem strongroomref26_Cut.calls (k : Nat) (a0 : ByteArray) (a1 : Int) (r : List (S23)) (w : World) (h : strongroomref26_Cut.f k a0 a1 = some r) :
    Calls Try.prog 30 #[.string a0, .int .i64 a1] w fun e w' => ∃ v0_ : Value, e = .returned (v0_) ∧ Kd.R k23 23 w' w.heap.size (fun _ => True) v0_ r ∧ Below w.heap.size w w' := by
  have hu23 := Try.underlying23
  have HB := Aside0.mk (Below.refl w.heap.size w)
  have H : (strongroomref26_Cut.l0 k a0 a1 ([] : List (S23))) = some r := h
  clear h
  have H' := Aside0.mk H
  clear H
  go_enter Try.func30, Try.ntmps30
  go_wp2
  go_loopg [0, 1, 5] k (fun kq v0 v1 v5 w' => ∃ (x0_1 : ByteArray) (x1_1 : Int) (x5_1 : List (S23)), v0 = .string x0_1 ∧ v1 = .int .i64 x1_1 ∧ Aside0 (strongroomref26_Cut.l0 kq x0_1 x1_1 x5_1 = some r) ∧ Aside0 (kq ≤ k) ∧ Aside0 (Kd.R k23 23 w' w.heap.size (fun _ => True) v5 x5_1) ∧ Aside0 (Below w.heap.size w w'))
  case atStart => exact ⟨(a0), (a1), (([] : List (S23))), (by first | rfl | (simp; done) | (simp [*]; done)), (by first | rfl | (simp; done) | (simp [*]; done)), H', ⟨Nat.le_refl _⟩, ⟨by first | exact Kd.R_nil _ _ _ _ _ | exact Kd.N_nil _ _ _ _ _ | exact Kd.V_nil _ _ _ _ _ | exact Kd.Q_nil _ _ _ _ _ | exact Kd.S_nil _ _ _ _ _⟩, ⟨by repeat (first | (with_reducible first | exact HB.out | apply below_alloc | apply pw_below_drewN | apply below_drew1) | exact HB.out)⟩⟩
  case round =>
    clear H'
    try clear p2
    obtain ⟨x0_1, x1_1, x5_1, rfl, rfl, HA, HK1, HO_5, HB⟩ := hrel
    cases gk with
    | zero => exact absurd HA.out (by simp [strongroomref26_Cut.l0])
    | succ k1 =>
      have H := HA.out
      clear HA
      simp only [strongroomref26_Cut.l0] at H
      by_cases c3 : (x0_1.size : Int) > 200
      · rw [if_pos c3] at H
        have c3b0 : decide (200 < (x0_1.size : Int)) = true := decide_eq_true c3
        have c3b1 : decide (200 < x0_1.size) = true := decide_eq_true (by omega)
        clear c3
        by_cases c4 : 0 ≤ 200
        · rw [if_pos c4] at H
          have c4b0 := eq_true c4
          have c4b1 : decide (0 ≤ 200) = true := decide_eq_true c4
          clear c4
          by_cases c5 : 200 ≤ (x0_1.size : Int)
          · rw [if_pos c5] at H
            have c5b0 := eq_true c5
            have c5b1 : decide (200 ≤ (x0_1.size : Int)) = true := decide_eq_true c5
            clear c5
            by_cases c6 : x5_1.length < 2932031007402
            · rw [if_pos c6] at H
              have LMc6 := Aside0.mk c6
              clear c6
              obtain ⟨y230, hy230⟩ : ∃ y_ : List (S23), y_ = (x5_1 ++ [(⟨false, x1_1, false, x0_1.extract 0 200, 0⟩ : S23)]) := ⟨_, rfl⟩
              replace H : (strongroomref26_Cut.l0 k1 (x0_1.extract 200 x0_1.size) (wrap64 (x1_1 + 1)) y230) = some r := by first | (rw [hy230]; with_reducible exact H) | (have H2_ := (Option.bind_some _ _).symm.trans H; rw [hy230]; with_reducible exact H2_) | (have H2_ := (Option.bind_some _ _).symm.trans H; with_reducible exact H2_) | with_reducible exact H | (rw [hy230]; exact H) | exact H
              have Ny230 := Aside0.mk hy230
              clear hy230
              have c7b0 := eq_true (of_decide_eq_true (by first | (with_reducible assumption) | assumption) : 200 ≤ (x0_1.size : Int))
              have H' := Aside0.mk H
              clear H
              go_wp2_with (first | ((with_reducible refine gate_builtin (b := .append) (xs := #[.tmp 9, .tmp 14]) rfl ?_); at_builtin; refine Kd.R_append k23 (w0 := w) w.heap.size rfl (.tmp 9) (.tmp 14) 60 23 (.agg #[(.bool false), (.int .i64 0), (.bool false), (.string ⟨#[]⟩), (.int .i64 0)]) 48 rfl Try.underlying60 info23 rfl (by decide) (by omega) u5 x5_1 (⟨false, x1_1, false, x0_1.extract 0 200, 0⟩ : S23) [.bool false, .int .i64 x1_1, .bool false, .string (x0_1.extract 0 200), .int .i64 0] (fun _ => True) (fun _ => False) rfl rfl ?aP (fun _ hk => hk.elim) ?aF ?aO ?aB ?aS ?aL ?_; (case aP => exact k23_mkM _ _ _ (⟨false, x1_1, false, x0_1.extract 0 200, 0⟩ : S23)); (case aB => exact (by repeat (first | (with_reducible first | exact HB.out | apply below_alloc | apply pw_below_drewN | apply below_drew1) | exact HB.out))); (case aF => exact (fun _ _ => trivial)); (case aO => exact (by (with_reducible repeat (first | apply Kd.R_alloc | apply Kd.R_drewN | apply Kd.R_drew)); exact HO_5.out)); (case aS => exact (below_size (by repeat (first | (with_reducible first | exact HB.out | apply below_alloc | apply pw_below_drewN | apply below_drew1) | exact HB.out)))); (case aL => have := LMc6.out; omega); intro v231 w8 ho hb hg hat; rw [← Ny230.out] at ho; have n0_ := Aside0.mk (hb); have n1_ := Aside0.mk (ho); clear HB; clear HO_5; have HB := n0_; have HO232 := n1_; clear n0_ n1_; clear ho hb hg hat))
              go_roundg k1
              case measure => have := HK1.out; omega
              case rel => exact ⟨(x0_1.extract 200 x0_1.size), (wrap64 (x1_1 + 1)), (y230), (by first | rfl | (simp; done) | (simp [*]; done)), (by first | rfl | (simp; done) | (simp [*]; done)), H', ⟨by have := HK1.out; omega⟩, ⟨by (with_reducible repeat (first | apply Kd.R_alloc | apply Kd.R_drewN | apply Kd.R_drew)); exact HO232.out⟩, ⟨by repeat (first | (with_reducible first | exact HB.out | apply below_alloc | apply pw_below_drewN | apply below_drew1) | exact HB.out)⟩⟩
            · rw [if_neg c6] at H
              exact absurd H (by simp)
          · rw [if_neg c5] at H
            exact absurd H (by simp)
        · rw [if_neg c4] at H
          exact absurd H (by simp)
      · rw [if_neg c3] at H
        have c3b0 : decide (200 < (x0_1.size : Int)) = false := decide_eq_false c3
        have c3b1 : decide (200 < x0_1.size) = false := decide_eq_false (by omega)
        clear c3
        by_cases c9 : x5_1.length < 2932031007402
        · rw [if_pos c9] at H
          have LMc9 := Aside0.mk c9
          clear c9
          obtain ⟨y233, hy233⟩ : ∃ y_ : List (S23), y_ = (x5_1 ++ [(⟨false, x1_1, true, x0_1, 0⟩ : S23)]) := ⟨_, rfl⟩
          replace H : (some y233) = some r := by first | (rw [hy233]; with_reducible exact H) | (have H2_ := (Option.bind_some _ _).symm.trans H; rw [hy233]; with_reducible exact H2_) | (have H2_ := (Option.bind_some _ _).symm.trans H; with_reducible exact H2_) | with_reducible exact H | (rw [hy233]; exact H) | exact H
          have Ny233 := Aside0.mk hy233
          clear hy233
          obtain rfl := Option.some.inj H
          go_wp2_with (first | ((with_reducible refine gate_builtin (b := .append) (xs := #[.tmp 20, .tmp 24]) rfl ?_); at_builtin; refine Kd.R_append k23 (w0 := w) w.heap.size rfl (.tmp 20) (.tmp 24) 60 23 (.agg #[(.bool false), (.int .i64 0), (.bool false), (.string ⟨#[]⟩), (.int .i64 0)]) 48 rfl Try.underlying60 info23 rfl (by decide) (by omega) u5 x5_1 (⟨false, x1_1, true, x0_1, 0⟩ : S23) [.bool false, .int .i64 x1_1, .bool true, .string x0_1, .int .i64 0] (fun _ => True) (fun _ => False) rfl rfl ?aP (fun _ hk => hk.elim) ?aF ?aO ?aB ?aS ?aL ?_; (case aP => exact k23_mkM _ _ _ (⟨false, x1_1, true, x0_1, 0⟩ : S23)); (case aB => exact (by repeat (first | (with_reducible first | exact HB.out | apply below_alloc | apply pw_below_drewN | apply below_drew1) | exact HB.out))); (case aF => exact (fun _ _ => trivial)); (case aO => exact (by (with_reducible repeat (first | apply Kd.R_alloc | apply Kd.R_drewN | apply Kd.R_drew)); exact HO_5.out)); (case aS => exact (below_size (by repeat (first | (with_reducible first | exact HB.out | apply below_alloc | apply pw_below_drewN | apply below_drew1) | exact HB.out)))); (case aL => have := LMc9.out; omega); intro v234 w10 ho hb hg hat; rw [← Ny233.out] at ho; have n0_ := Aside0.mk (hb); have n1_ := Aside0.mk (ho); clear HB; clear HO_5; have HB := n0_; have HO235 := n1_; clear n0_ n1_; clear ho hb hg hat))
          go_ret
          exact ⟨_, by first | rfl | (simp [errW_none, errW_some] <;> rfl) | (simp [*, errW_none, errW_some] <;> rfl), by (with_reducible repeat (first | apply Kd.R_alloc | apply Kd.R_drewN | apply Kd.R_drew)); exact HO235.out, by repeat (first | (with_reducible first | exact HB.out | apply below_alloc | apply pw_below_drewN | apply below_drew1) | exact HB.out)⟩
        · rw [if_neg c9] at H
          exact absurd H (by simp)

-- NOT PRINTED: function 6 (strongroomlaw26_LinkNils)

end Go.Proofs.Yteaefambkagpbaa.F

-- LnkN
namespace Go.Proofs.Yteaefambkagpbaa.F
open Go Go.RowKit Go.Proofs.YteaefambkagpbaaW.PrintWords Go.Proofs.YteaefambkagpbaaW.PrintLast Go.Proofs.YteaefambkagpbaaW.PrintMore Go.Proofs.YteaefambkagpbaaM Go.Proofs.YteaefambkagpbaaR
attribute [local go_sem] max2_int min2_int max_two min_two
set_option linter.unusedSimpArgs false
set_option linter.unusedVariables false
set_option maxRecDepth 100000
attribute [local simp] undef_ne undef_ne'
theorem wait_nil_c (w : World) : Calls Try.prog 25 #[.pointer none] w (Tells w (Is (.int .i64 0))) := by
  go_enter Try.func25, Try.ntmps25
  go_wp2_with fail
  go_ret
  exact ⟨_, rfl, rfl, Grew.refl w⟩
theorem done_nil_c (w : World) : Calls Try.prog 20 #[.pointer none] w (Tells w (Is (.bool false))) := by
  go_enter Try.func20, Try.ntmps20
  go_wp2_with fail
  go_ret
  exact ⟨_, rfl, rfl, Grew.refl w⟩
theorem gap_nil_c (w : World) : Calls Try.prog 28 #[.pointer none] w (Tells w (Is (.int .i64 0))) := by
  go_enter Try.func28, Try.ntmps28
  go_wp2_with fail
  go_ret
  exact ⟨_, rfl, rfl, Grew.refl w⟩
theorem next_nil_c (w : World) : Calls Try.prog 21 #[.pointer none] w (Tells w (Is (.tuple #[.string ⟨#[]⟩, .bool false]))) := by
  go_enter Try.func21, Try.ntmps21
  go_wp2_with fail
  go_ret2
  exact ⟨_, rfl, rfl, Grew.refl w⟩
theorem receipt_nil_c (w : World) : Calls Try.prog 27 #[.pointer none] w (Tells w (Is (.agg zcells.toArray))) := by
  go_enter Try.func27, Try.ntmps27
  go_wp2_with fail
  exact bodyPost_ret (v := .agg zcells.toArray) (by simp [results, Try.results27, go_sem, zcells]) rfl ⟨_, rfl, rfl, by repeat (first | exact Grew.refl _ | exact Grew.trans (Grew.alloc _ _) (Grew.alloc _ _) | exact Grew.alloc _ _)⟩
theorem stake_nil_c (w : World) (r : Bool) (n : Int) (z : Bool) (d : ByteArray) (b : Int) : Calls Try.prog 23 #[.pointer none, .agg #[.bool r, .int .i64 n, .bool z, .string d, .int .i64 b]] w (Tells w (Is (.bool false))) := by
  go_enter Try.func23, Try.ntmps23
  go_wp2_with fail
  apply region_grew [Is _, Is _, Is _, Is undef, Is undef, Is undef, Is _, Is _, Is undef, Is undef, Is undef, Is _, Is _, Is undef, Is undef, Is undef, Is undef, Is undef, Is undef, Is undef, Is undef, Is undef] [([(0, none)], none), ([(9, some 0)], none), ([(10, some 1)], none), ([(3, none), (11, some 2)], some (11, false)), ([(12, some 3), (11, some 2)], some (11, false)), ([(13, some 4), (11, some 2)], some (11, false)), ([(11, some 2), (14, some 5)], none), ([(15, some 6)], none), ([(3, none), (16, some 7)], some (16, false)), ([(17, some 8), (16, some 7)], some (16, false)), ([(18, some 9), (16, some 7)], some (16, false)), ([(16, some 7), (19, some 10)], none), ([(20, some 11)], none), ([(3, none), (21, some 12)], some (21, false)), ([(22, some 13), (21, some 12)], some (21, false)), ([(0, none), (21, some 12)], some (21, false)), ([(24, some 15), (21, some 12)], some (21, false)), ([(25, some 16), (21, some 12)], some (21, false)), ([(26, some 17), (21, some 12)], some (21, false)), ([(0, none), (21, some 12)], some (21, false)), ([(28, some 19), (21, some 12)], some (21, false)), ([(27, some 18), (29, some 20), (21, some 12)], some (21, false))] [(9, 0), (10, 1), (11, 2), (12, 3), (13, 4), (14, 5), (15, 6), (16, 7), (17, 8), (18, 9), (19, 10), (20, 11), (21, 12), (22, 13), (23, 14), (24, 15), (25, 16), (26, 17), (27, 18), (28, 19), (29, 20), (30, 21)] rfl (by kernel_rfl) (by kernel_rfl) (show Stable Grew _ from ⟨Is.stable _, Is.stable _, Is.stable _, Is.stable _, Is.stable _, Is.stable _, Is.stable _, Is.stable _, Is.stable _, Is.stable _, Is.stable _, Is.stable _, Is.stable _, Is.stable _, Is.stable _, Is.stable _, Is.stable _, Is.stable _, Is.stable _, Is.stable _, Is.stable _, Is.stable _, trivial⟩)
  · show OpsHold _ _ _ _ _ _ _ _ _
    refine ⟨fun a_ wx hR hD K hK => ?_, ?_⟩
    · have hG : Grew _ wx := (Grew.drew _).trans hR
      simp [Deps, Dep, at_, Is] at hD
      go_simp
      exact hK _ _ (Grew.refl _) rfl
    refine ⟨fun a_ wx hR hD K hK => ?_, ?_⟩
    · have hG : Grew _ wx := (Grew.drew _).trans hR
      simp [Deps, Dep, at_, Is] at hD
      go_simp
      exact hK _ _ (Grew.refl _) rfl
    refine ⟨fun a_ wx hR hD K hK => ?_, ?_⟩
    · have hG : Grew _ wx := (Grew.drew _).trans hR
      simp [Deps, Dep, at_, Is] at hD
      go_simp
      exact hK _ _ (Grew.refl _) rfl
    refine ⟨fun a_ wx hR hD => ⟨fun hgd K hK => ?_, fun hgd => ?_⟩, ?_⟩
    · have hG : Grew _ wx := (Grew.drew _).trans hR
      exfalso
      simp [Deps, Dep, at_, Is] at hD
      simp_all
    · exact rfl
    refine ⟨fun a_ wx hR hD => ⟨fun hgd K hK => ?_, fun hgd => ?_⟩, ?_⟩
    · have hG : Grew _ wx := (Grew.drew _).trans hR
      exfalso
      simp [Deps, Dep, at_, Is] at hD
      simp_all
    · exact rfl
    refine ⟨fun a_ wx hR hD => ⟨fun hgd K hK => ?_, fun hgd => ?_⟩, ?_⟩
    · have hG : Grew _ wx := (Grew.drew _).trans hR
      exfalso
      simp [Deps, Dep, at_, Is] at hD
      simp_all
    · exact rfl
    refine ⟨fun a_ wx hR hD K hK => ?_, ?_⟩
    · have hG : Grew _ wx := (Grew.drew _).trans hR
      simp [Deps, Dep, at_, Is] at hD
      obtain ⟨hd0, hd1⟩ := hD
      go_simp
      exact hK _ _ (Grew.refl _) rfl
    refine ⟨fun a_ wx hR hD K hK => ?_, ?_⟩
    · have hG : Grew _ wx := (Grew.drew _).trans hR
      simp [Deps, Dep, at_, Is] at hD
      go_simp
      exact hK _ _ (Grew.refl _) rfl
    refine ⟨fun a_ wx hR hD => ⟨fun hgd K hK => ?_, fun hgd => ?_⟩, ?_⟩
    · have hG : Grew _ wx := (Grew.drew _).trans hR
      exfalso
      simp [Deps, Dep, at_, Is] at hD
      simp_all
    · exact rfl
    refine ⟨fun a_ wx hR hD => ⟨fun hgd K hK => ?_, fun hgd => ?_⟩, ?_⟩
    · have hG : Grew _ wx := (Grew.drew _).trans hR
      exfalso
      simp [Deps, Dep, at_, Is] at hD
      simp_all
    · exact rfl
    refine ⟨fun a_ wx hR hD => ⟨fun hgd K hK => ?_, fun hgd => ?_⟩, ?_⟩
    · have hG : Grew _ wx := (Grew.drew _).trans hR
      exfalso
      simp [Deps, Dep, at_, Is] at hD
      simp_all
    · exact rfl
    refine ⟨fun a_ wx hR hD K hK => ?_, ?_⟩
    · have hG : Grew _ wx := (Grew.drew _).trans hR
      simp [Deps, Dep, at_, Is] at hD
      obtain ⟨hd0, hd1⟩ := hD
      go_simp
      exact hK _ _ (Grew.refl _) rfl
    refine ⟨fun a_ wx hR hD K hK => ?_, ?_⟩
    · have hG : Grew _ wx := (Grew.drew _).trans hR
      simp [Deps, Dep, at_, Is] at hD
      go_simp
      exact hK _ _ (Grew.refl _) rfl
    refine ⟨fun a_ wx hR hD => ⟨fun hgd K hK => ?_, fun hgd => ?_⟩, ?_⟩
    · have hG : Grew _ wx := (Grew.drew _).trans hR
      exfalso
      simp [Deps, Dep, at_, Is] at hD
      simp_all
    · exact rfl
    refine ⟨fun a_ wx hR hD => ⟨fun hgd K hK => ?_, fun hgd => ?_⟩, ?_⟩
    · have hG : Grew _ wx := (Grew.drew _).trans hR
      exfalso
      simp [Deps, Dep, at_, Is] at hD
      simp_all
    · exact rfl
    refine ⟨fun a_ wx hR hD => ⟨fun hgd K hK => ?_, fun hgd => ?_⟩, ?_⟩
    · have hG : Grew _ wx := (Grew.drew _).trans hR
      exfalso
      simp [Deps, Dep, at_, Is] at hD
      simp_all
    · exact rfl
    refine ⟨fun a_ wx hR hD => ⟨fun hgd K hK => ?_, fun hgd => ?_⟩, ?_⟩
    · have hG : Grew _ wx := (Grew.drew _).trans hR
      exfalso
      simp [Deps, Dep, at_, Is] at hD
      simp_all
    · exact rfl
    refine ⟨fun a_ wx hR hD => ⟨fun hgd K hK => ?_, fun hgd => ?_⟩, ?_⟩
    · have hG : Grew _ wx := (Grew.drew _).trans hR
      exfalso
      simp [Deps, Dep, at_, Is] at hD
      simp_all
    · exact rfl
    refine ⟨fun a_ wx hR hD => ⟨fun hgd K hK => ?_, fun hgd => ?_⟩, ?_⟩
    · have hG : Grew _ wx := (Grew.drew _).trans hR
      exfalso
      simp [Deps, Dep, at_, Is] at hD
      simp_all
    · exact rfl
    refine ⟨fun a_ wx hR hD => ⟨fun hgd K hK => ?_, fun hgd => ?_⟩, ?_⟩
    · have hG : Grew _ wx := (Grew.drew _).trans hR
      exfalso
      simp [Deps, Dep, at_, Is] at hD
      simp_all
    · exact rfl
    refine ⟨fun a_ wx hR hD => ⟨fun hgd K hK => ?_, fun hgd => ?_⟩, ?_⟩
    · have hG : Grew _ wx := (Grew.drew _).trans hR
      exfalso
      simp [Deps, Dep, at_, Is] at hD
      simp_all
    · exact rfl
    refine ⟨fun a_ wx hR hD => ⟨fun hgd K hK => ?_, fun hgd => ?_⟩, ?_⟩
    · have hG : Grew _ wx := (Grew.drew _).trans hR
      exfalso
      simp [Deps, Dep, at_, Is] at hD
      simp_all
    · exact rfl
    trivial
  · show EndHold _ _ _ _ _ _ _
    refine end_all (xs := [_, _, _, _, _, _, _, _, _, _, _, _, _, _, _, _, _, _, _, _, _, _]) ⟨rfl, rfl, rfl, rfl, rfl, rfl, rfl, rfl, rfl, rfl, rfl, rfl, rfl, rfl, rfl, rfl, rfl, rfl, rfl, rfl, rfl, rfl, trivial⟩ ?_
    rintro w2 hR1 -
    refine ⟨?_⟩
    have hG_w2 : Grew _ w2 := (Grew.drew _).trans hR1
    clear hR1
    simp only [Act.put, List.setIfInBounds_toArray, List.set_cons_succ, List.set_cons_zero, dropN, putEach]
    go_wp2_with fail
    go_ret
    exact ⟨_, rfl, rfl, Grew.trans (Grew.alloc _ _) hG_w2⟩
theorem rtake_nil_c (w : World) (r : Bool) (n : Int) (z : Bool) (d : ByteArray) (b : Int) : Calls Try.prog 26 #[.pointer none, .agg #[.bool r, .int .i64 n, .bool z, .string d, .int .i64 b]] w (Tells w (Is (.bool false))) := by
  go_enter Try.func26, Try.ntmps26
  go_wp2_with fail
  apply region_grew [Is _, Is _, Is _, Is undef, Is undef, Is _, Is _, Is undef, Is undef, Is undef, Is _, Is _, Is undef, Is undef, Is undef, Is undef, Is undef, Is undef, Is undef, Is _, Is _, Is undef, Is undef, Is undef, Is undef, Is undef, Is undef, Is undef] [([(0, none)], none), ([(9, some 0)], none), ([(10, some 1)], none), ([(3, none), (11, some 2)], some (11, false)), ([(12, some 3), (11, some 2)], some (11, false)), ([(11, some 2), (13, some 4)], none), ([(14, some 5)], none), ([(3, none), (15, some 6)], some (15, false)), ([(16, some 7), (15, some 6)], some (15, false)), ([(17, some 8), (15, some 6)], some (15, false)), ([(15, some 6), (18, some 9)], none), ([(19, some 10)], none), ([(3, none), (20, some 11)], some (20, false)), ([(21, some 12), (20, some 11)], some (20, false)), ([(0, none), (20, some 11)], some (20, false)), ([(23, some 14), (20, some 11)], some (20, false)), ([(24, some 15), (20, some 11)], some (20, false)), ([(25, some 16), (20, some 11)], some (20, false)), ([(22, some 13), (26, some 17), (20, some 11)], some (20, false)), ([(20, some 11), (27, some 18)], none), ([(28, some 19)], none), ([(3, none), (29, some 20)], some (29, false)), ([(30, some 21), (29, some 20)], some (29, false)), ([(0, none), (29, some 20)], some (29, false)), ([(32, some 23), (29, some 20)], some (29, false)), ([(33, some 24), (29, some 20)], some (29, false)), ([(34, some 25), (29, some 20)], some (29, false)), ([(35, some 26), (29, some 20)], some (29, false))] [(9, 0), (10, 1), (11, 2), (12, 3), (13, 4), (14, 5), (15, 6), (16, 7), (17, 8), (18, 9), (19, 10), (20, 11), (21, 12), (22, 13), (23, 14), (24, 15), (25, 16), (26, 17), (27, 18), (28, 19), (29, 20), (30, 21), (31, 22), (32, 23), (33, 24), (34, 25), (35, 26), (36, 27)] rfl (by kernel_rfl) (by kernel_rfl) (show Stable Grew _ from ⟨Is.stable _, Is.stable _, Is.stable _, Is.stable _, Is.stable _, Is.stable _, Is.stable _, Is.stable _, Is.stable _, Is.stable _, Is.stable _, Is.stable _, Is.stable _, Is.stable _, Is.stable _, Is.stable _, Is.stable _, Is.stable _, Is.stable _, Is.stable _, Is.stable _, Is.stable _, Is.stable _, Is.stable _, Is.stable _, Is.stable _, Is.stable _, Is.stable _, trivial⟩)
  · show OpsHold _ _ _ _ _ _ _ _ _
    refine ⟨fun a_ wx hR hD K hK => ?_, ?_⟩
    · have hG : Grew _ wx := (Grew.drew _).trans hR
      simp [Deps, Dep, at_, Is] at hD
      go_simp
      exact hK _ _ (Grew.refl _) rfl
    refine ⟨fun a_ wx hR hD K hK => ?_, ?_⟩
    · have hG : Grew _ wx := (Grew.drew _).trans hR
      simp [Deps, Dep, at_, Is] at hD
      go_simp
      exact hK _ _ (Grew.refl _) rfl
    refine ⟨fun a_ wx hR hD K hK => ?_, ?_⟩
    · have hG : Grew _ wx := (Grew.drew _).trans hR
      simp [Deps, Dep, at_, Is] at hD
      go_simp
      exact hK _ _ (Grew.refl _) rfl
    refine ⟨fun a_ wx hR hD => ⟨fun hgd K hK => ?_, fun hgd => ?_⟩, ?_⟩
    · have hG : Grew _ wx := (Grew.drew _).trans hR
      exfalso
      simp [Deps, Dep, at_, Is] at hD
      simp_all
    · exact rfl
    refine ⟨fun a_ wx hR hD => ⟨fun hgd K hK => ?_, fun hgd => ?_⟩, ?_⟩
    · have hG : Grew _ wx := (Grew.drew _).trans hR
      exfalso
      simp [Deps, Dep, at_, Is] at hD
      simp_all
    · exact rfl
    refine ⟨fun a_ wx hR hD K hK => ?_, ?_⟩
    · have hG : Grew _ wx := (Grew.drew _).trans hR
      simp [Deps, Dep, at_, Is] at hD
      obtain ⟨hd0, hd1⟩ := hD
      go_simp
      exact hK _ _ (Grew.refl _) rfl
    refine ⟨fun a_ wx hR hD K hK => ?_, ?_⟩
    · have hG : Grew _ wx := (Grew.drew _).trans hR
      simp [Deps, Dep, at_, Is] at hD
      go_simp
      exact hK _ _ (Grew.refl _) rfl
    refine ⟨fun a_ wx hR hD => ⟨fun hgd K hK => ?_, fun hgd => ?_⟩, ?_⟩
    · have hG : Grew _ wx := (Grew.drew _).trans hR
      exfalso
      simp [Deps, Dep, at_, Is] at hD
      simp_all
    · exact rfl
    refine ⟨fun a_ wx hR hD => ⟨fun hgd K hK => ?_, fun hgd => ?_⟩, ?_⟩
    · have hG : Grew _ wx := (Grew.drew _).trans hR
      exfalso
      simp [Deps, Dep, at_, Is] at hD
      simp_all
    · exact rfl
    refine ⟨fun a_ wx hR hD => ⟨fun hgd K hK => ?_, fun hgd => ?_⟩, ?_⟩
    · have hG : Grew _ wx := (Grew.drew _).trans hR
      exfalso
      simp [Deps, Dep, at_, Is] at hD
      simp_all
    · exact rfl
    refine ⟨fun a_ wx hR hD K hK => ?_, ?_⟩
    · have hG : Grew _ wx := (Grew.drew _).trans hR
      simp [Deps, Dep, at_, Is] at hD
      obtain ⟨hd0, hd1⟩ := hD
      go_simp
      exact hK _ _ (Grew.refl _) rfl
    refine ⟨fun a_ wx hR hD K hK => ?_, ?_⟩
    · have hG : Grew _ wx := (Grew.drew _).trans hR
      simp [Deps, Dep, at_, Is] at hD
      go_simp
      exact hK _ _ (Grew.refl _) rfl
    refine ⟨fun a_ wx hR hD => ⟨fun hgd K hK => ?_, fun hgd => ?_⟩, ?_⟩
    · have hG : Grew _ wx := (Grew.drew _).trans hR
      exfalso
      simp [Deps, Dep, at_, Is] at hD
      simp_all
    · exact rfl
    refine ⟨fun a_ wx hR hD => ⟨fun hgd K hK => ?_, fun hgd => ?_⟩, ?_⟩
    · have hG : Grew _ wx := (Grew.drew _).trans hR
      exfalso
      simp [Deps, Dep, at_, Is] at hD
      simp_all
    · exact rfl
    refine ⟨fun a_ wx hR hD => ⟨fun hgd K hK => ?_, fun hgd => ?_⟩, ?_⟩
    · have hG : Grew _ wx := (Grew.drew _).trans hR
      exfalso
      simp [Deps, Dep, at_, Is] at hD
      simp_all
    · exact rfl
    refine ⟨fun a_ wx hR hD => ⟨fun hgd K hK => ?_, fun hgd => ?_⟩, ?_⟩
    · have hG : Grew _ wx := (Grew.drew _).trans hR
      exfalso
      simp [Deps, Dep, at_, Is] at hD
      simp_all
    · exact rfl
    refine ⟨fun a_ wx hR hD => ⟨fun hgd K hK => ?_, fun hgd => ?_⟩, ?_⟩
    · have hG : Grew _ wx := (Grew.drew _).trans hR
      exfalso
      simp [Deps, Dep, at_, Is] at hD
      simp_all
    · exact rfl
    refine ⟨fun a_ wx hR hD => ⟨fun hgd K hK => ?_, fun hgd => ?_⟩, ?_⟩
    · have hG : Grew _ wx := (Grew.drew _).trans hR
      exfalso
      simp [Deps, Dep, at_, Is] at hD
      simp_all
    · exact rfl
    refine ⟨fun a_ wx hR hD => ⟨fun hgd K hK => ?_, fun hgd => ?_⟩, ?_⟩
    · have hG : Grew _ wx := (Grew.drew _).trans hR
      exfalso
      simp [Deps, Dep, at_, Is] at hD
      simp_all
    · exact rfl
    refine ⟨fun a_ wx hR hD K hK => ?_, ?_⟩
    · have hG : Grew _ wx := (Grew.drew _).trans hR
      simp [Deps, Dep, at_, Is] at hD
      obtain ⟨hd0, hd1⟩ := hD
      go_simp
      exact hK _ _ (Grew.refl _) rfl
    refine ⟨fun a_ wx hR hD K hK => ?_, ?_⟩
    · have hG : Grew _ wx := (Grew.drew _).trans hR
      simp [Deps, Dep, at_, Is] at hD
      go_simp
      exact hK _ _ (Grew.refl _) rfl
    refine ⟨fun a_ wx hR hD => ⟨fun hgd K hK => ?_, fun hgd => ?_⟩, ?_⟩
    · have hG : Grew _ wx := (Grew.drew _).trans hR
      exfalso
      simp [Deps, Dep, at_, Is] at hD
      simp_all
    · exact rfl
    refine ⟨fun a_ wx hR hD => ⟨fun hgd K hK => ?_, fun hgd => ?_⟩, ?_⟩
    · have hG : Grew _ wx := (Grew.drew _).trans hR
      exfalso
      simp [Deps, Dep, at_, Is] at hD
      simp_all
    · exact rfl
    refine ⟨fun a_ wx hR hD => ⟨fun hgd K hK => ?_, fun hgd => ?_⟩, ?_⟩
    · have hG : Grew _ wx := (Grew.drew _).trans hR
      exfalso
      simp [Deps, Dep, at_, Is] at hD
      simp_all
    · exact rfl
    refine ⟨fun a_ wx hR hD => ⟨fun hgd K hK => ?_, fun hgd => ?_⟩, ?_⟩
    · have hG : Grew _ wx := (Grew.drew _).trans hR
      exfalso
      simp [Deps, Dep, at_, Is] at hD
      simp_all
    · exact rfl
    refine ⟨fun a_ wx hR hD => ⟨fun hgd K hK => ?_, fun hgd => ?_⟩, ?_⟩
    · have hG : Grew _ wx := (Grew.drew _).trans hR
      exfalso
      simp [Deps, Dep, at_, Is] at hD
      simp_all
    · exact rfl
    refine ⟨fun a_ wx hR hD => ⟨fun hgd K hK => ?_, fun hgd => ?_⟩, ?_⟩
    · have hG : Grew _ wx := (Grew.drew _).trans hR
      exfalso
      simp [Deps, Dep, at_, Is] at hD
      simp_all
    · exact rfl
    refine ⟨fun a_ wx hR hD => ⟨fun hgd K hK => ?_, fun hgd => ?_⟩, ?_⟩
    · have hG : Grew _ wx := (Grew.drew _).trans hR
      exfalso
      simp [Deps, Dep, at_, Is] at hD
      simp_all
    · exact rfl
    trivial
  · show EndHold _ _ _ _ _ _ _
    refine end_all (xs := [_, _, _, _, _, _, _, _, _, _, _, _, _, _, _, _, _, _, _, _, _, _, _, _, _, _, _, _]) ⟨rfl, rfl, rfl, rfl, rfl, rfl, rfl, rfl, rfl, rfl, rfl, rfl, rfl, rfl, rfl, rfl, rfl, rfl, rfl, rfl, rfl, rfl, rfl, rfl, rfl, rfl, rfl, rfl, trivial⟩ ?_
    rintro w2 hR1 -
    refine ⟨?_⟩
    have hG_w2 : Grew _ w2 := (Grew.drew _).trans hR1
    clear hR1
    simp only [Act.put, List.setIfInBounds_toArray, List.set_cons_succ, List.set_cons_zero, dropN, putEach]
    go_wp2_with fail
    go_ret
    exact ⟨_, rfl, rfl, Grew.trans (Grew.alloc _ _) hG_w2⟩
theorem msg_l0 (n : Nat) (hn : n ≤ 5000) (fl : Int) (y0 y1 y2 y3 y6 y9 : Int) (y5 y7 : Bool) (y8 : ByteArray) : ∀ (m i k : Nat), i + m = n → m + 1 ≤ k → strongroomlaw26_message.l0 k (n : Int) (List.replicate i fl ++ List.replicate m 0) (i : Int) y0 y1 y2 y3 fl y5 y6 y7 y8 y9 = some (strOfNums (List.replicate n fl)) := by
  intro m
  induction m with
  | zero =>
    intro i k hi hk
    obtain ⟨k, rfl⟩ : ∃ j, k = j + 1 := ⟨k - 1, by omega⟩
    obtain rfl : i = n := by omega
    simp only [strongroomlaw26_message.l0]
    rw [if_neg (by omega)]
    simp
  | succ m ih =>
    intro i k hi hk
    obtain ⟨k, rfl⟩ : ∃ j, k = j + 1 := ⟨k - 1, by omega⟩
    simp only [strongroomlaw26_message.l0]
    rw [if_pos (by omega), if_pos (by omega), if_pos (by simp; omega), w64 (by omega) (by omega)]
    have e : (List.replicate i fl ++ List.replicate (m + 1) 0).set ((i : Int)).toNat fl = List.replicate (i + 1) fl ++ List.replicate m 0 := by
      rw [Int.toNat_natCast, List.set_append_right _ _ (by simp), List.length_replicate, Nat.sub_self, List.replicate_succ, List.set_cons_zero, List.replicate_succ', List.append_assoc]
      rfl
    rw [e, show (i : Int) + 1 = ((i + 1 : Nat) : Int) from by omega]
    exact ih (i + 1) k (by omega) (by omega)
theorem msg_f (n : Nat) (hn : n ≤ 5000) (fl : Int) (y0 y2 y3 y6 y9 : Int) (y5 y7 : Bool) (y8 : ByteArray) : strongroomlaw26_message.f (n + 4) y0 (n : Int) y2 y3 fl y5 y6 y7 y8 y9 = some (strOfNums (List.replicate n fl)) := by
  unfold strongroomlaw26_message.f
  rw [if_neg (by omega), decide_eq_false (by omega)]
  simp only [strongroomlaw26_message.j0, strongroomlaw26_message.j1]
  rw [if_neg (by simp), if_pos (by omega), if_pos (by omega)]
  have := msg_l0 n hn fl y0 (n : Int) y2 y3 y6 y9 y5 y7 y8 n 0 (n + 2) (by omega) (by omega)
  simpa using this
theorem msg_c (n : Nat) (hn : n ≤ 5000) (fl : Int) (y0 y2 y3 y6 y9 : Int) (y5 y7 : Bool) (y8 : ByteArray) (w : World) : Calls Try.prog 29 #[.agg #[.int .i64 y0, .int .i64 (n : Int), .int .i64 y2, .int .i64 y3, .int .u8 fl, .bool y5, .int .i64 y6, .bool y7, .string y8, .int .i64 y9]] w (Tells w (Is (.string (strOfNums (List.replicate n fl))))) :=
  tells_is ((strongroomlaw26_message.calls _ _ _ _ _ _ _ _ _ _ _ _ w (msg_f n hn fl y0 y2 y3 y6 y9 y5 y7 y8)).mono fun _ _ h => h)
theorem rcut_l0 : ∀ (k : Nat) (m : ByteArray) (n : Int) (acc : List S23), m.size ≤ 200 * k + 200 → k + acc.length ≤ 1000000 → ∃ L, strongroomref26_Cut.l0 (k + 1) m n acc = some L ∧ L.length = acc.length + (cutN k m).length := by
  intro k
  induction k with
  | zero =>
    intro m n acc hm ha
    simp only [strongroomref26_Cut.l0, cutN]
    rw [if_neg (by omega), if_pos (by omega)]
    exact ⟨_, rfl, by simp⟩
  | succ k ih =>
    intro m n acc hm ha
    simp only [cutN]
    by_cases h : 200 < m.size
    · rw [if_pos h, strongroomref26_Cut.l0, if_pos (by omega), if_pos (by omega), if_pos (by omega), if_pos (by omega)]
      obtain ⟨L, h1, h2⟩ := ih (m.extract 200 m.size) (wrap64 (n + 1)) (acc ++ [⟨false, n, false, m.extract 0 200, 0⟩]) (by rw [ByteArray.size_extract]; omega) (by simp; omega)
      exact ⟨L, h1, by rw [h2]; simp; omega⟩
    · rw [if_neg h, strongroomref26_Cut.l0, if_neg (by omega), if_pos (by omega)]
      exact ⟨_, rfl, by simp⟩
theorem rcut_c (m : ByteArray) (h : m.size ≤ 100000) (w : World) : Calls Try.prog 30 #[.string m, .int .i64 0] w (Tells w (fun _ v => ∃ A c, v = .slice A (cutP m).length c)) := by
  obtain ⟨L, h1, h2⟩ := rcut_l0 m.size m 0 [] (by omega) (by simp; omega)
  refine (strongroomref26_Cut.calls (m.size + 1) m 0 L w h1).mono fun e w' ⟨v, he, hR, hb⟩ => ?_
  obtain ⟨A, c, rfl, -, -⟩ := Kd.R_reads hR
  exact ⟨_, he, ⟨A, c, by rw [h2]; simp [cutP]⟩, hb⟩
/-- how many parts: at most 21, at least one -/
theorem cutN_len : ∀ (k : Nat) (m : ByteArray), 1 ≤ (cutN k m).length ∧ 200 * (cutN k m).length ≤ m.size + 200 := by
  intro k
  induction k with
  | zero => intro m; simp only [cutN, List.length_singleton]; omega
  | succ k ih =>
    intro m
    simp only [cutN]
    by_cases h : 200 < m.size
    · rw [if_pos h, List.length_cons]
      have := ih (m.extract 200 m.size)
      rw [ByteArray.size_extract] at this
      omega
    · rw [if_neg h, List.length_singleton]; omega
theorem cutP_len (m : ByteArray) (h : m.size ≤ 4096) : 1 ≤ (cutP m).length ∧ (cutP m).length ≤ 21 := by
  have := cutN_len m.size m
  unfold cutP
  omega
end Go.Proofs.Yteaefambkagpbaa.F

-- LinkNils
namespace Go.Proofs.Yteaefambkagpbaa.F
open Go Go.RowKit Go.Proofs.YteaefambkagpbaaW.PrintWords Go.Proofs.YteaefambkagpbaaW.PrintLast Go.Proofs.YteaefambkagpbaaW.PrintMore Go.Proofs.YteaefambkagpbaaM Go.Proofs.YteaefambkagpbaaR
attribute [local go_sem] max2_int min2_int max_two min_two
set_option linter.unusedSimpArgs false
set_option linter.unusedVariables false
set_option maxRecDepth 100000
attribute [local simp] undef_ne undef_ne'
theorem eqPkN (d : Nat) (w : World) (x0 y0 : Bool) (x1 y1 : Int) (x2 y2 : Bool) (x3 y3 : ByteArray) (x4 y4 : Int) :
    (Op.equalIn (d + 2) 30 (.agg #[.bool x0, .int .i64 x1, .bool x2, .string x3, .int .i64 x4]) (.agg #[.bool y0, .int .i64 y1, .bool y2, .string y3, .int .i64 y4])).run Try.prog w = .ok (x0 == y0 && (x1 == y1 && (x2 == y2 && (x3.toList == y3.toList && (x4 == y4))))) w := by
  refine eqA_of Try.underlying30 (by kernel_rfl) ?_
  refine eqf_cons (by rfl) (by go_simp; rfl) (by go_simp; rfl) (by go_simp) ?_
  refine eqf_cons (by rfl) (by go_simp; rfl) (by go_simp; rfl) (by go_simp) ?_
  refine eqf_cons (by rfl) (by go_simp; rfl) (by go_simp; rfl) (by go_simp) ?_
  refine eqf_cons (by rfl) (by go_simp; rfl) (by go_simp; rfl) (by go_simp) ?_
  exact eqf_last (by rfl) (by go_simp; rfl) (by go_simp; rfl) (by go_simp)
theorem div64 (j q : Nat) (hq : 1 ≤ q) (h1 : j * q ≤ 64) (h2 : 64 < (j + 1) * q) : 64 / q = j := by
  rw [Nat.div_eq_of_lt_le] <;> first | omega | skip
set_option maxHeartbeats 8000000 in
theorem LinkNils_c (w : World) (r : Bool) (n : Int) (z : Bool) (d : ByteArray) (b : Int) (sz : Int) (ok0 : True) (ok1 : (Lit.int .i64 n).wf = true) (ok2 : True) (ok3 : d.size ≤ 140737488351232) (ok4 : (Lit.int .i64 b).wf = true) (hsz : (Lit.int .i64 sz).wf = true) :
    Calls Try.prog 6 #[.agg #[.bool r, .int .i64 n, .bool z, .string d, .int .i64 b], .int .i64 sz] w (Tells w (Is (.bool true))) := by
  obtain ⟨ds, hds⟩ : ∃ ds, ds = d.size := ⟨_, rfl⟩
  have hds' := hds.symm
  have HW0 := Lib.hid (Blk.new w 23 [.bool r, .int .i64 n, .bool z, .string d, .int .i64 b])
  clear ok0 ok1 ok2 ok3 ok4 hsz hds
  by_cases hgo : 1000 < ds
  · have d1 : decide (1000 < ds) = true := decide_eq_true hgo
    have d1' : decide (1000 < (ds : Int)) = true := decide_eq_true (by omega)
    go_enter Try.func6, Try.ntmps6
    go_wp2_with fail
    refine (lives_c _).mono ?_
    rintro e w2 ⟨_, rfl, rfl, hg2⟩
    go_wp2_with fail
    go_ret
    exact ⟨_, rfl, rfl, Grew.trans (Grew.alloc _ _) hg2⟩
  · have d1 : decide (1000 < ds) = false := decide_eq_false hgo
    have d1' : decide (1000 < (ds : Int)) = false := decide_eq_false (by omega)
    obtain ⟨g, hg⟩ : ∃ g, g = w.heap.size := ⟨_, rfl⟩
    obtain ⟨W0, hW0⟩ : ∃ W0, W0 = w.alloc (.cells #[.bool r, .int .i64 n, .bool z, .string d, .int .i64 b] 23) := ⟨_, rfl⟩
    have hb0 : Blk W0 g 23 [.bool r, .int .i64 n, .bool z, .string d, .int .i64 b] := by rw [hW0, hg]; exact HW0.out
    have hgw : Grew w W0 := by rw [hW0]; exact Grew.alloc _ _
    have HG0 := Lib.hid hgw
    have CB := Lib.hid (show ∀ wx, Grew W0 wx → (wx.cell? ⟨g, 0, none⟩ = some (.bool r) ∧ wx.cell? ⟨g, 1, none⟩ = some (.int .i64 n) ∧ wx.cell? ⟨g, 2, none⟩ = some (.bool z) ∧ wx.cell? ⟨g, 3, none⟩ = some (.string d) ∧ wx.cell? ⟨g, 4, none⟩ = some (.int .i64 b)) from fun wx h => ⟨by rw [(hb0.grew h).at_]; rfl, by rw [(hb0.grew h).at_]; rfl, by rw [(hb0.grew h).at_]; rfl, by rw [(hb0.grew h).at_]; rfl, by rw [(hb0.grew h).at_]; rfl⟩)
    have HWE := Lib.hid hW0
    have HGE := Lib.hid hg
    have HMI := Lib.hid (show ∀ w, Calls Try.prog 10 #[.agg #[.bool r, .int .i64 n, .bool z, .string d, .int .i64 b]] w (Tells w (Is (.agg #[.bool r, .int .i64 n, .bool z, .string d, .int .i64 b]))) from fun w => mine_c ⟨r, n, z, d, b⟩ w)
    have HEQ := Lib.hid (fun w' => show (Op.equalIn 10000 30 (.agg #[.bool false, .int .i64 0, .bool false, .string ⟨#[]⟩, .int .i64 0]) (.agg #[.bool false, .int .i64 0, .bool false, .string ⟨#[]⟩, .int .i64 0])).run Try.prog w' = .ok true w' from by
      have h := eqPkN 9998 w' false false 0 0 false false ⟨#[]⟩ ⟨#[]⟩ 0 0
      simpa using h)
    have HRC := Lib.hid (show ∀ w, Calls Try.prog 27 #[.pointer none] w (Tells w (Is (.agg #[.bool false, .int .i64 0, .bool false, .string ⟨#[]⟩, .int .i64 0]))) from receipt_nil_c)
    clear hb0 hgw hW0 hg HW0 hgo
    go_enter Try.func6, Try.ntmps6
    go_wp2_with fail
    rw [← HWE.out]
    rw [← HGE.out]
    refine (next_nil_c W0).mono ?_
    rintro e w1 ⟨_, rfl, rfl, hg1⟩
    go_wp2_with fail
    refine (put_nil_c w1 ⟨#[]⟩).mono ?_
    rintro e w2 ⟨_, rfl, rfl, hg2⟩
    have hg2' := Grew.trans hg1 hg2
    obtain ⟨k0, k1, k2, k3, k4⟩ := CB.out w2 hg2'
    go_wp2_with fail
    refine (HMI.out w2).mono ?_
    rintro e w3 ⟨_, rfl, rfl, hg3⟩
    have hg3' := Grew.trans hg2' hg3
    clear hg3
    clear k0 k1 k2 k3 k4
    go_wp2_with fail
    refine (stake_nil_c w3 r n z d b).mono ?_
    rintro e w4 ⟨_, rfl, rfl, hg4⟩
    have hg4' := Grew.trans hg3' hg4
    clear hg4
    go_wp2_with fail
    refine (due_nil_c w4 3).mono ?_
    rintro e w5 ⟨_, rfl, rfl, hg5⟩
    have hg5' := Grew.trans hg4' hg5
    clear hg5
    go_wp2_with fail
    refine (wait_nil_c w5).mono ?_
    rintro e w6 ⟨_, rfl, rfl, hg6⟩
    have hg6' := Grew.trans hg5' hg6
    clear hg6
    go_wp2_with fail
    refine (done_nil_c w6).mono ?_
    rintro e w7 ⟨_, rfl, rfl, hg7⟩
    have hg7' := Grew.trans hg6' hg7
    clear hg7
    obtain ⟨k0, k1, k2, k3, k4⟩ := CB.out w7 hg7'
    go_wp2_with fail
    refine (HMI.out w7).mono ?_
    rintro e w8 ⟨_, rfl, rfl, hg8⟩
    have hg8' := Grew.trans hg7' hg8
    clear hg8
    clear k0 k1 k2 k3 k4
    go_wp2_with fail
    refine (rtake_nil_c w8 r n z d b).mono ?_
    rintro e w9 ⟨_, rfl, rfl, hg9⟩
    have hg9' := Grew.trans hg8' hg9
    clear hg9
    go_wp2_with fail
    refine (HRC.out w9).mono ?_
    rintro e w10 ⟨_, rfl, rfl, hg10⟩
    have hg10' := Grew.trans hg9' hg10
    clear hg10
    have heq := HEQ.out
    go_wp2_with fail
    clear heq
    refine (gap_nil_c w10).mono ?_
    rintro e w11 ⟨_, rfl, rfl, hg11⟩
    have hg11' := Grew.trans hg10' hg11
    clear hg11
    go_wp2_with fail
    clear hg1 hg2 hg2' hg3' hg4' hg5' hg6' hg7' hg8' hg9' hg10'
    refine (snew_c w11).mono ?_
    rintro e w12 ⟨_, rfl, ⟨g9, r9, rfl, hS⟩, hg12⟩
    have HGW := Lib.hid (Grew.trans HG0.out (Grew.trans hg11' hg12))
    have HB12 := Lib.hid hg12.size
    obtain ⟨B, hBe⟩ : ∃ B, B = w11.heap.size := ⟨_, rfl⟩
    rw [← hBe] at hS HB12
    have HBW := Lib.hid (show w.heap.size ≤ B from by rw [hBe]; exact Nat.le_trans HG0.out.size hg11'.size)
    have HS := Lib.hid hS
    clear hS hBe hg11' hg12 HMI CB HEQ HRC
    by_cases hs : sz < 0 ∨ 5000 < sz
    · by_cases h0 : sz < 0
      · have e1 : decide (sz < 0) = true := decide_eq_true h0
        clear hs h0
        go_wp2_with fail
        refine (lives_c _).mono ?_
        rintro e wz ⟨_, rfl, rfl, hgz⟩
        go_wp2_with fail
        go_ret
        exact ⟨_, rfl, rfl, Grew.trans HGW.out hgz⟩
      · have e1 : decide (sz < 0) = false := decide_eq_false h0
        have e2 : decide (5000 < sz) = true := decide_eq_true (by omega)
        clear hs h0
        go_wp2_with fail
        refine (lives_c _).mono ?_
        rintro e wz ⟨_, rfl, rfl, hgz⟩
        go_wp2_with fail
        go_ret
        exact ⟨_, rfl, rfl, Grew.trans HGW.out hgz⟩
    · obtain ⟨m, rfl⟩ := Int.eq_ofNat_of_zero_le (show 0 ≤ sz by omega)
      have hm5 : m ≤ 5000 := by omega
      clear hs
      have e2 : decide (5000 < (m : Int)) = false := decide_eq_false (by omega)
      have e2' : decide (5000 < m) = false := decide_eq_false (by omega)
      obtain ⟨T, hT⟩ : ∃ T, T = strOfNums (List.replicate m 0) := ⟨_, rfl⟩
      have hTs : T.size = m := by rw [hT, str_size, List.length_replicate]
      have HM := Lib.hid (fun w => msg_c m hm5 0 0 0 0 0 0 false false ⟨#[]⟩ w)
      rw [← hT] at HM
      have HTS := Lib.hid hTs
      clear hT hTs
      go_wp2_with fail
      refine (HM.out _).mono ?_
      rintro e w13 ⟨_, rfl, rfl, hg13⟩
      by_cases h4 : 4096 < m
      · have e3 : decide (4096 < m) = true := decide_eq_true h4
        have e3' : decide (4096 < (m : Int)) = true := decide_eq_true (by omega)
        clear h4
        go_wp2_with fail
        refine (put_long_c w13 g9 T (by rw [HTS.out]; exact of_decide_eq_true e3)).mono ?_
        rintro e w14 ⟨_, rfl, rfl, hg14⟩
        go_wp2_with fail
        refine (wait_c w14 B g9 r9 [] 0 0 (HS.out.grew (Grew.trans hg13 hg14))).mono ?_
        rintro e w15 ⟨_, rfl, rfl, hg15⟩
        go_wp2_with fail
        refine (lives_c _).mono ?_
        rintro e wz ⟨_, rfl, rfl, hgz⟩
        go_wp2_with fail
        go_ret
        exact ⟨_, rfl, rfl, Grew.trans (Grew.trans (Grew.trans (Grew.trans HGW.out hg13) hg14) hg15) hgz⟩
      · have e3 : decide (4096 < m) = false := decide_eq_false h4
        have e3' : decide (4096 < (m : Int)) = false := decide_eq_false (by omega)
        have hT4 : T.size ≤ 4096 := by rw [HTS.out]; omega
        have hcl := cutP_len T hT4
        obtain ⟨q, hq⟩ : ∃ q, q = (cutP T).length := ⟨_, rfl⟩
        have HC := Lib.hid (fun w => rcut_c T (by omega) w)
        rw [← hq] at hcl HC
        obtain ⟨hq1, hq2⟩ := hcl
        have HQ := Lib.hid hq
        have HT4 := Lib.hid hT4
        clear h4 hT4 hq
        go_wp2_with fail
        refine (HC.out _).mono ?_
        rintro e w14 ⟨_, rfl, ⟨A4, c4, rfl⟩, hg14⟩
        have hS14 := HS.out.grew (Grew.trans hg13 hg14)
        have hgw14 := Grew.trans (Grew.trans HGW.out hg13) hg14
        have hB14 : B ≤ w14.heap.size := Nat.le_trans HB12.out (Grew.trans hg13 hg14).size
        clear hg13 hg14
        go_wp2_with fail
        go_loopw [12] (fun iv wr => ∃ (j : Nat) (v : Value) (l : List S86) (k : Nat), iv = .int .i64 (k : Int) ∧ k = j * q ∧ k ≤ 64 ∧ l.length = k ∧ SndM B g9 v l 0 0 wr ∧ Grew w wr ∧ B ≤ wr.heap.size) (fun iv _ => 64 - (intOf iv).toNat)
        case atStart => exact ⟨0, r9, [], 0, rfl, by simp, by omega, rfl, hS14, hgw14, hB14⟩
        case round =>
          obtain ⟨j, v, l, k, rfl, hk, hk64, hlk, hI, hgr, hBr⟩ := hrel
          clear hS14 hgw14 hB14
          by_cases hlt : k + q ≤ 64
          · have f1 : decide ((k : Int) + (q : Int) ≤ 64) = true := decide_eq_true (by omega)
            have f2 : decide (k + q ≤ 64) = true := decide_eq_true hlt
            have HK := Lib.hid hk
            have HLK := Lib.hid hlk
            have HI := Lib.hid hI
            have HGR := Lib.hid hgr
            have HBR := Lib.hid hBr
            clear hk hlk hI hgr hBr
            go_wp2_with fail
            refine (sput_c wr B g9 v l 0 0 HI.out T HT4.out (by rw [← HQ.out, HLK.out]; exact hlt) (by omega) (by omega) HBR.out).mono ?_
            rintro e w15 ⟨v', rfl, hI', hu', -⟩
            have hgr' : Grew w w15 := ((Upd.of_grew (S := sndS g9 v) HGR.out).trans hu').grew (fun i hi h => by
              have := HBW.out
              rcases h with rfl | h
              · have := HI.out.hg; omega
              · have := HI.out.row.base_ i h; omega)
            have hB' : B ≤ w15.heap.size := Nat.le_trans HBR.out hu'.size
            have hl' : (l ++ fresh (0 + (l.length : Int)) (cutP T)).length = k + q := by rw [List.length_append, fresh_len, ← HQ.out, HLK.out]
            have HI' := Lib.hid hI'
            have HG' := Lib.hid hgr'
            have HL' := Lib.hid hl'
            clear hI' hu' hgr' hl'
            go_wp2_with fail
            go_roundw
            case rel => exact ⟨j + 1, v', _, k + q, by go_num, by rw [HK.out, Nat.add_mul, Nat.one_mul], hlt, HL'.out, HI'.out, HG'.out, hB'⟩
            case measure => simp [intOf]; omega
          · have f1 : decide ((k : Int) + (q : Int) ≤ 64) = false := decide_eq_false (by omega)
            have f2 : decide (k + q ≤ 64) = false := decide_eq_false hlt
            have hdv : 64 / q * q = k := by
              rw [div64 j q hq1 (by rw [← hk]; exact hk64) (by rw [Nat.add_mul, ← hk]; omega), ← hk]
            have HLK := Lib.hid hlk
            have HI := Lib.hid hI
            have HGR := Lib.hid hgr
            have HF := Lib.hid (fun wx (h : Grew wr wx) => put_full_c wx B g9 v l 0 0 (HI.out.grew h) T HT4.out (by have := HLK.out; omega) (by rw [← HQ.out, HLK.out]; omega) (by rw [← HQ.out]; omega))
            have HWT := Lib.hid (fun wx (h : Grew wr wx) => wait_c wx B g9 v l 0 0 (HI.out.grew h))
            rw [HLK.out] at HWT
            obtain ⟨dq, hdq⟩ : ∃ dq, dq = 64 / q := ⟨_, rfl⟩
            rw [← hdq] at hdv
            have hd1 : Int.tdiv 64 (q : Int) = (dq : Int) := by
              rw [Int.tdiv_eq_ediv_of_nonneg (by omega), hdq]; rfl
            have hd2 : (64 : Int) / (q : Int) = (dq : Int) := by rw [hdq]; rfl
            have hd3 : (dq : Int) * (q : Int) = (k : Int) := by rw [← hdv]; push_cast; rfl
            have hw1 : IntKind.i64.wrap (dq : Int) = (dq : Int) := IntWalk.i64_in _ (by
              have : dq ≤ 64 := by rw [hdq]; exact Nat.div_le_self _ _
              omega)
            have hw2 : IntKind.i64.wrap (k : Int) = (k : Int) := IntWalk.i64_in _ (by omega)
            have hq0 : ¬ (q : Int) = 0 := by omega
            have hq0' : ¬ q = 0 := by omega
            clear hk hlk hI hgr hBr hdv hdq
            go_wp2_with fail
            apply region_grew [Is _, Is _, Is _, Is _, Is _, Is _, Is _, Is _, Is _, Is _, Is _] [([(9, none)], none), ([(10, none)], none), ([(110, some 0), (111, some 1)], none), ([(112, some 2)], none), ([(113, some 3)], none), ([(9, none), (114, some 4)], some (114, true)), ([(115, some 5), (114, some 4)], some (114, true)), ([(11, none), (114, some 4)], some (114, true)), ([(117, some 7), (114, some 4)], some (114, true)), ([(11, none), (114, some 4)], some (114, true)), ([(118, some 8), (119, some 9), (114, some 4)], some (114, true))] [(110, 0), (111, 1), (112, 2), (113, 3), (114, 4), (115, 5), (116, 6), (117, 7), (118, 8), (119, 9), (120, 10)] rfl (by kernel_rfl) (by kernel_rfl) (show Stable Grew _ from ⟨Is.stable _, Is.stable _, Is.stable _, Is.stable _, Is.stable _, Is.stable _, Is.stable _, Is.stable _, Is.stable _, Is.stable _, Is.stable _, trivial⟩)
            · show OpsHold _ _ _ _ _ _ _ _ _
              refine ⟨fun a_ wx hR hD K hK => ?_, ?_⟩
              · have hG : Grew wr wx := (Grew.drew _).trans hR
                simp [Deps, Dep, at_, Is] at hD
                go_simp
                exact hK _ _ (Grew.refl _) rfl
              refine ⟨fun a_ wx hR hD K hK => ?_, ?_⟩
              · have hG : Grew wr wx := (Grew.drew _).trans hR
                simp [Deps, Dep, at_, Is] at hD
                go_simp
                exact hK _ _ (Grew.refl _) rfl
              refine ⟨fun a_ wx hR hD K hK => ?_, ?_⟩
              · have hG : Grew wr wx := (Grew.drew _).trans hR
                simp [Deps, Dep, at_, Is] at hD
                obtain ⟨hd0, hd1⟩ := hD
                go_simp
                have hcn := HF.out wx hG
                with_reducible refine hcn.mono ?_
                clear hcn
                rintro e wy ⟨v, rfl, hv, hg⟩
                exact hK _ _ hg hv
              refine ⟨fun a_ wx hR hD K hK => ?_, ?_⟩
              · have hG : Grew wr wx := (Grew.drew _).trans hR
                simp [Deps, Dep, at_, Is] at hD
                go_simp
                exact hK _ _ (Grew.refl _) rfl
              refine ⟨fun a_ wx hR hD K hK => ?_, ?_⟩
              · have hG : Grew wr wx := (Grew.drew _).trans hR
                simp [Deps, Dep, at_, Is] at hD
                go_simp
                exact hK _ _ (Grew.refl _) rfl
              refine ⟨fun a_ wx hR hD => ⟨fun hgd K hK => ?_, fun hgd => ?_⟩, ?_⟩
              · have hG : Grew wr wx := (Grew.drew _).trans hR
                clear hgd
                simp [Deps, Dep, at_, Is] at hD
                obtain ⟨hd0, hd1⟩ := hD
                go_simp
                exact hK _ _ (Grew.refl _) rfl
              · have hG : Grew wr wx := (Grew.drew _).trans hR
                exfalso
                simp [Deps, Dep, at_, Is] at hD
                simp_all
              refine ⟨fun a_ wx hR hD => ⟨fun hgd K hK => ?_, fun hgd => ?_⟩, ?_⟩
              · have hG : Grew wr wx := (Grew.drew _).trans hR
                clear hgd
                simp [Deps, Dep, at_, Is] at hD
                obtain ⟨hd0, hd1⟩ := hD
                go_simp
                have hcn := HWT.out wx hG
                with_reducible refine hcn.mono ?_
                clear hcn
                rintro e wy ⟨v, rfl, hv, hg⟩
                exact hK _ _ hg hv
              · have hG : Grew wr wx := (Grew.drew _).trans hR
                exfalso
                simp [Deps, Dep, at_, Is] at hD
                simp_all
              refine ⟨fun a_ wx hR hD => ⟨fun hgd K hK => ?_, fun hgd => ?_⟩, ?_⟩
              · have hG : Grew wr wx := (Grew.drew _).trans hR
                clear hgd
                simp [Deps, Dep, at_, Is] at hD
                obtain ⟨hd0, hd1⟩ := hD
                go_simp
                exact hK _ _ (Grew.refl _) rfl
              · have hG : Grew wr wx := (Grew.drew _).trans hR
                exfalso
                simp [Deps, Dep, at_, Is] at hD
                simp_all
              refine ⟨fun a_ wx hR hD => ⟨fun hgd K hK => ?_, fun hgd => ?_⟩, ?_⟩
              · have hG : Grew wr wx := (Grew.drew _).trans hR
                clear hgd
                simp [Deps, Dep, at_, Is] at hD
                obtain ⟨hd0, hd1⟩ := hD
                go_simp
                exact hK _ _ (Grew.refl _) rfl
              · have hG : Grew wr wx := (Grew.drew _).trans hR
                exfalso
                simp [Deps, Dep, at_, Is] at hD
                simp_all
              refine ⟨fun a_ wx hR hD => ⟨fun hgd K hK => ?_, fun hgd => ?_⟩, ?_⟩
              · have hG : Grew wr wx := (Grew.drew _).trans hR
                clear hgd
                simp [Deps, Dep, at_, Is] at hD
                obtain ⟨hd0, hd1⟩ := hD
                go_simp
                exact hK _ _ (Grew.refl _) rfl
              · have hG : Grew wr wx := (Grew.drew _).trans hR
                exfalso
                simp [Deps, Dep, at_, Is] at hD
                simp_all
              refine ⟨fun a_ wx hR hD => ⟨fun hgd K hK => ?_, fun hgd => ?_⟩, ?_⟩
              · have hG : Grew wr wx := (Grew.drew _).trans hR
                clear hgd
                simp [Deps, Dep, at_, Is] at hD
                obtain ⟨hd0, hd1, hd2⟩ := hD
                go_simp
                exact hK _ _ (Grew.refl _) rfl
              · have hG : Grew wr wx := (Grew.drew _).trans hR
                exfalso
                simp [Deps, Dep, at_, Is] at hD
                simp_all
              trivial
            · show EndHold _ _ _ _ _ _ _
              refine end_all (xs := [_, _, _, _, _, _, _, _, _, _, _]) ⟨rfl, rfl, rfl, rfl, rfl, rfl, rfl, rfl, rfl, rfl, rfl, trivial⟩ ?_
              rintro w16 hR1 -
              refine ⟨?_⟩
              have hG_w16 : Grew wr w16 := (Grew.drew _).trans hR1
              clear hR1
              simp only [Act.put, List.setIfInBounds_toArray, List.set_cons_succ, List.set_cons_zero, dropN, putEach]
              have hkk : ((k : Int) == (k : Int)) = true := by simp
              go_wp2_with fail
              refine (lives_c w16).mono ?_
              rintro e wz ⟨_, rfl, rfl, hgz⟩
              go_wp2_with fail
              go_ret
              exact ⟨_, rfl, rfl, Grew.trans (Grew.trans HGR.out hG_w16) hgz⟩
end Go.Proofs.Yteaefambkagpbaa.F

-- Open
namespace Go.Proofs.YteaefambkagpbaaO
set_option linter.unusedSimpArgs false
open Go Go.RowKit Go.ChangeShapes Go.WideShapes Go.ChangeAt Go.Proofs.YteaefambkagpbaaW.PrintWords
/-- cells of type t that can be read as data are some x of kind d -/
def Opens {α : Type} (P : Program) (t : TypeId) (d : Kd α) (ok : α → Prop) : Prop :=
  ∀ (H : Type) (enc : TypeId × Value → H) (W : World) (sp : Nat → Bool) (held : Bool) (fuel : Nat) (cs : List Value) (y : DataW H × List MemPlace), DataW.trod enc P W 0 sp held fuel t cs = some y → ∃ x, d.K W x cs ∧ ok x
section
variable {P : Program} {α : Type}
theorem opens_int {t : TypeId} {k : IntKind} (hu : P.underlying t = some (.int k)) : Opens P t (Kd.int k) (fun x => (Lit.int k x).wf = true) := by
  intro H enc W sp held fuel cs y h
  cases fuel with
  | zero => simp [DataW.trod] at h
  | succ n =>
    have key : ∃ n', cs = [.int k n'] ∧ (Lit.int k n').wf = true := by
      simp only [DataW.trod, hu] at h
      split at h <;> simp_all
    obtain ⟨x, rfl, hx⟩ := key
    exact ⟨x, rfl, hx⟩
theorem opens_bool {t : TypeId} (hu : P.underlying t = some .bool) : Opens P t Kd.bool (fun _ => True) := by
  intro H enc W sp held fuel cs y h
  cases fuel with
  | zero => simp [DataW.trod] at h
  | succ n =>
    have key : ∃ b, cs = [.bool b] := by
      simp only [DataW.trod, hu] at h
      split at h <;> simp_all
    obtain ⟨x, rfl⟩ := key
    exact ⟨x, rfl, trivial⟩
theorem opens_string {t : TypeId} (hu : P.underlying t = some .string) : Opens P t Kd.string (fun s => s.size ≤ maxLen) := by
  intro H enc W sp held fuel cs y h
  cases fuel with
  | zero => simp [DataW.trod] at h
  | succ n =>
    simp only [DataW.trod, hu] at h
    split at h <;> simp_all
    exact ⟨_, rfl, h.1⟩
theorem mapM_get {β γ : Type} {f : β → Option γ} : ∀ {l : List β} {ys : List γ}, l.mapM f = some ys → ys.length = l.length ∧ ∀ (i : Nat) (x : β), l[i]? = some x → ∃ y, f x = some y
  | [], ys, h => by simp at h; subst h; simp
  | a :: l, ys, h => by
    simp only [List.mapM_cons] at h
    obtain ⟨b, hb, h⟩ := Option.bind_eq_some_iff.1 h
    obtain ⟨bs, hbs, h⟩ := Option.bind_eq_some_iff.1 h
    simp at h
    subst h
    have ih := mapM_get hbs
    refine ⟨by simp [ih.1], fun i x hx => ?_⟩
    cases i with
    | zero => simp at hx; subst hx; exact ⟨b, hb⟩
    | succ i => simp at hx; exact ih.2 i x hx
theorem choose_list {ok : α → Prop} {Q : Nat → α → Prop} : ∀ n : Nat, (∀ i, i < n → ∃ x, Q i x ∧ ok x) → ∃ xs : List α, xs.length = n ∧ (∀ (i : Nat) (x : α), xs[i]? = some x → Q i x) ∧ ∀ x ∈ xs, ok x
  | 0, _ => ⟨[], rfl, by simp, by simp⟩
  | n + 1, h => by
    obtain ⟨xs, h1, h2, h3⟩ := choose_list n (fun i hi => h i (by omega))
    obtain ⟨x, hx, hk⟩ := h n (by omega)
    refine ⟨xs ++ [x], by simp [h1], fun i y hy => ?_, fun y hy => ?_⟩
    · rcases Nat.lt_or_ge i n with hlt | hge
      · rw [List.getElem?_append_left (by omega)] at hy; exact h2 i y hy
      · rw [List.getElem?_append_right (by omega)] at hy
        have : i = n := by
          rcases Nat.lt_or_ge n i with h' | h'
          · rw [List.getElem?_eq_none (by simp; omega)] at hy; cases hy
          · omega
        subst this
        simp [h1] at hy
        subst hy; exact hx
    · rcases List.mem_append.1 hy with hy | hy
      · exact h3 y hy
      · simp at hy; subst hy; exact hk
theorem cells_get {W : World} {a : Addr} {n : Nat} {cs : List Value} (h : W.cells? 0 a n = some cs) : cs.length = n ∧ ∀ (i : Nat) (u : Value), cs[i]? = some u → W.cell? (a.add i) = some u := by
  unfold World.cells? at h
  rw [if_pos (Nat.zero_le _)] at h
  have h1 := mapM_get h
  refine ⟨by simpa using h1.1, fun i u hu => ?_⟩
  have hi : i < n := by
    have := (List.getElem?_eq_some_iff.1 hu).1
    rw [h1.1] at this; simpa using this
  obtain ⟨y, hy⟩ := h1.2 i i (by simp [hi])
  have key : ∀ (l : List Nat) (ys : List Value), l.mapM (fun i => W.cell? (a.add i)) = some ys → ∀ (j : Nat), ys[j]? = (l[j]?).bind fun i => W.cell? (a.add i) := by
    intro l
    induction l with
    | nil => intro ys h j; simp at h; subst h; simp
    | cons b l ih =>
      intro ys h j
      simp only [List.mapM_cons] at h
      obtain ⟨c, hc, h⟩ := Option.bind_eq_some_iff.1 h
      obtain ⟨cs', hcs, h⟩ := Option.bind_eq_some_iff.1 h
      simp at h; subst h
      cases j with
      | zero => simp [hc]
      | succ j => simpa using ih cs' hcs j
  have := key _ _ h i
  rw [hu] at this
  simp [hi] at this
  exact this.symm
theorem opens_slice {t e : TypeId} {d : Kd α} {ok : α → Prop} (hu : P.underlying t = some (.slice e)) (he : Opens P e d ok) (hc : P.cellsOf e = d.sz) : Opens P t (Kd.slice e d) (fun xs => ∀ x ∈ xs, ok x) := by
  intro H enc W sp held fuel cs y h
  cases fuel with
  | zero => simp [DataW.trod] at h
  | succ n =>
    have key : cs = [.slice none 0 0] ∨ ∃ a len cap, cs = [.slice (some a) len cap] ∧ len ≤ cap ∧ cap ≤ maxLen ∧ ∃ elems, (List.range len).mapM (fun i => (W.cells? 0 (a.add (i * P.cellsOf e)) (P.cellsOf e)).bind (DataW.trod enc P W 0 sp held n e)) = some elems := by
      simp only [DataW.trod, hu] at h
      split at h <;> try (simp_all; done)
      rename_i e' a len cap heq
      simp only [Option.some.injEq, TypeDesc.slice.injEq] at heq
      subst heq
      split at h
      · rename_i hb
        obtain ⟨elems, he1, _⟩ := Option.bind_eq_some_iff.1 h
        exact .inr ⟨a, len, cap, rfl, hb.2.1, hb.2.2, elems, he1⟩
      · cases h
    rcases key with rfl | ⟨a, len, cap, rfl, h1, h2, elems, he1⟩
    · exact ⟨[], ⟨none, 0, rfl, by simp, by simp [Kd.C, ReadsRow]⟩, by simp⟩
    · rw [hc] at he1
      have hm := mapM_get he1
      obtain ⟨xs, x1, x2, x3⟩ := choose_list (ok := ok) (Q := fun i x => ∃ c, W.cells? 0 (a.add (i * d.sz)) d.sz = some c ∧ d.K W x c) len (fun i hi => by
        obtain ⟨z, hz⟩ := hm.2 i i (by simp [hi])
        obtain ⟨c, hc1, hc2⟩ := Option.bind_eq_some_iff.1 hz
        obtain ⟨x, hx, hk⟩ := he H enc W sp held n c z hc2
        exact ⟨x, ⟨c, hc1, hx⟩, hk⟩)
      refine ⟨xs, ⟨some a, cap, by rw [x1], by omega, ?_⟩, x3⟩
      refine ⟨rfl, by have : maxLen = 9223372036854775807 := rfl; omega, fun _ => ⟨a, rfl, fun j p hp => ?_⟩⟩
      obtain ⟨c, hc1, hk⟩ := x2 j p hp
      have hg := cells_get hc1
      refine ⟨c, hg.1, hk, fun i u hiu => ?_⟩
      have := hg.2 i u hiu
      rw [← this]
      congr 1
      unfold Addr.add
      by_cases z1 : j * d.sz = 0
      · rw [if_pos z1]
        by_cases z2 : i = 0
        · simp [z1, z2]
        · rw [if_neg (by omega), if_neg z2]; simp [z1]
      · rw [if_neg z1, if_neg (by omega)]
        by_cases z2 : i = 0
        · simp [z2]
        · rw [if_neg z2]; simp [Nat.add_assoc]
theorem opens_array {t e n : Nat} {d : Kd α} {ok : α → Prop} (hs : 0 < d.sz) (hu : P.underlying t = some (.array n e)) (he : Opens P e d ok) (hc : P.cellsOf e = d.sz) (ht : P.cellsOf t = n * d.sz) : Opens P t (Kd.arr n d hs) (fun xs => ∀ x ∈ xs, ok x) := by
  intro H enc W sp held fuel cs y h
  cases fuel with
  | zero => simp [DataW.trod] at h
  | succ m =>
    simp only [DataW.trod, hu] at h
    split at h
    · rename_i hl
      obtain ⟨ys, hy, _⟩ := Option.map_eq_some_iff.1 h
      have hm := mapM_get hy
      obtain ⟨xs, x1, x2, x3⟩ := choose_list (ok := ok) (Q := fun i x => d.K W x ((cs.drop (i * d.sz)).take d.sz)) n (fun i hi => by
        obtain ⟨z, hz⟩ := hm.2 i i (by simp [hi])
        rw [hc] at hz
        exact he H enc W sp held m _ z hz)
      exact ⟨xs, ⟨x1, by rw [x1, hl, ht], x2⟩, x3⟩
    · cases h
/-- an argument of a kind -/
theorem opens_arg {t : TypeId} {d : Kd α} {ok : α → Prop} (ho : Opens P t d ok) {H : Type} {enc : TypeId × Value → H} {W : World} {sp : Nat → Bool} {held : Bool} {v : Value} {y : DataW H} {ps : List MemPlace} (h : DataW.Trod enc P W 0 sp held t v y ps) : ∃ x, d.K W x v.cells.toList ∧ ok x := by
  obtain ⟨fuel, hf⟩ := h
  exact ho H enc W sp held fuel _ _ hf
theorem okWide_array {t n e : Nat} {r : Reach} {b0 : Nat} {v : Value} {W : World} (hu : P.underlying t = some (.array n e)) (h : Value.okWide P W r b0 t v) : ∃ cs, v = .agg cs ∧ cs.size = P.cellsOf t := by
  simp only [Value.okWide, hu] at h
  obtain ⟨cs, h1, h2, _⟩ := h
  exact ⟨cs, h1, h2⟩
theorem arr2 {d : Kd α} {hs : 0 < d.sz} (h1 : d.sz = 1) {W : World} {x : List α} {cs : Array Value} (h : (Kd.arr 2 d hs).K W x cs.toList) : ∃ a b c0 c1, x = [a, b] ∧ cs = #[c0, c1] ∧ d.K W a [c0] ∧ d.K W b [c1] := by
  obtain ⟨hl, hc, hr⟩ := h
  rw [hl, h1] at hc
  obtain ⟨l⟩ := cs
  match x, hl, l, hc, hr with
  | [a, b], _, [c0, c1], _, hr => exact ⟨a, b, c0, c1, rfl, rfl, by have := hr 0 a rfl; rw [h1] at this; exact this, by have := hr 1 b rfl; rw [h1] at this; exact this⟩
theorem arr3 {d : Kd α} {hs : 0 < d.sz} (h1 : d.sz = 1) {W : World} {x : List α} {cs : Array Value} (h : (Kd.arr 3 d hs).K W x cs.toList) : ∃ a b c c0 c1 c2, x = [a, b, c] ∧ cs = #[c0, c1, c2] ∧ d.K W a [c0] ∧ d.K W b [c1] ∧ d.K W c [c2] := by
  obtain ⟨hl, hc, hr⟩ := h
  rw [hl, h1] at hc
  obtain ⟨l⟩ := cs
  match x, hl, l, hc, hr with
  | [a, b, c], _, [c0, c1, c2], _, hr => exact ⟨a, b, c, c0, c1, c2, rfl, rfl, by have := hr 0 a rfl; rw [h1] at this; exact this, by have := hr 1 b rfl; rw [h1] at this; exact this, by have := hr 2 c rfl; rw [h1] at this; exact this⟩
end
end Go.Proofs.YteaefambkagpbaaO

-- OpenW
namespace Go.Proofs.YteaefambkagpbaaO
set_option linter.unusedSimpArgs false
open Go Go.RowKit Go.ChangeShapes Go.WideShapes Go.ChangeAt Go.Proofs.YteaefambkagpbaaW.PrintWords
/-- cells of type t that can be read as data of no more weight than is reached are some x of kind d -/
def OpensW {α : Type} (P : Program) (t : TypeId) (d : Kd α) (ok : α → Prop) : Prop :=
  ∀ (H : Type) (enc : TypeId × Value → H) (W : World) (sp : Nat → Bool) (held : Bool) (fuel : Nat) (cs : List Value) (y : DataW H × List MemPlace), DataW.trod enc P W 0 sp held fuel t cs = some y → (∀ n ∈ y.1.weights P t, n ≤ reachBytes) → ∃ x, d.K W x cs ∧ ok x
section
variable {P : Program} {α : Type}
theorem Opens.w {t : TypeId} {d : Kd α} {ok : α → Prop} (h : Opens P t d ok) : OpensW P t d ok := fun H enc W sp held fuel cs y hy _ => h H enc W sp held fuel cs y hy
theorem opensW_string {t : TypeId} (hu : P.underlying t = some .string) : OpensW P t Kd.string (fun s => s.size ≤ 140737488351232) := by
  intro H enc W sp held fuel cs y h hw
  cases fuel with
  | zero => simp [DataW.trod] at h
  | succ n =>
    have key : ∃ s, cs = [.string s] ∧ y.1 = .lit (.string s.data.toList) := by
      simp only [DataW.trod, hu] at h
      split at h <;> simp_all
      rw [← h.2]
    obtain ⟨s, rfl, hy⟩ := key
    refine ⟨s, rfl, ?_⟩
    have := hw s.size (by rw [hy]; simp [DataW.weights])
    exact this
theorem mapM_mem {β γ : Type} {f : β → Option γ} : ∀ {l : List β} {ys : List γ}, l.mapM f = some ys → ∀ (x : β) (z : γ), x ∈ l → f x = some z → z ∈ ys
  | [], ys, h, x, z, hx, _ => by simp at hx
  | a :: l, ys, h, x, z, hx, hz => by
    simp only [List.mapM_cons] at h
    obtain ⟨b, hb, h⟩ := Option.bind_eq_some_iff.1 h
    obtain ⟨bs, hbs, h⟩ := Option.bind_eq_some_iff.1 h
    simp at h
    subst h
    rcases List.mem_cons.1 hx with rfl | hx
    · rw [hb] at hz; injection hz with hz; subst hz; simp
    · exact List.mem_cons_of_mem _ (mapM_mem hbs x z hx hz)
theorem weightsAll_mem {H : Type} {e : TypeId} {d : DataW H} {n : Nat} : ∀ {ds : List (DataW H)}, d ∈ ds → n ∈ d.weights P e → n ∈ DataW.weightsAll P e ds
  | [], h, _ => by simp at h
  | a :: ds, h, hn => by
    simp only [DataW.weightsAll]
    rcases List.mem_cons.1 h with rfl | h
    · exact List.mem_append_left _ hn
    · exact List.mem_append_right _ (weightsAll_mem h hn)
theorem opensW_slice {t e : TypeId} {d : Kd α} {ok : α → Prop} (hu : P.underlying t = some (.slice e)) (he : OpensW P e d ok) (hc : P.cellsOf e = d.sz) : OpensW P t (Kd.slice e d) (fun xs => ∀ x ∈ xs, ok x) := by
  intro H enc W sp held fuel cs y h hw
  cases fuel with
  | zero => simp [DataW.trod] at h
  | succ n =>
    have key : cs = [.slice none 0 0] ∨ ∃ a len cap, cs = [.slice (some a) len cap] ∧ len ≤ cap ∧ cap ≤ maxLen ∧ ∃ elems rest, (List.range len).mapM (fun i => (W.cells? 0 (a.add (i * P.cellsOf e)) (P.cellsOf e)).bind (DataW.trod enc P W 0 sp held n e)) = some elems ∧ y.1 = .slice (elems.map (·.1)) rest := by
      simp only [DataW.trod, hu] at h
      split at h <;> try (simp_all; done)
      rename_i e' a len cap heq
      simp only [Option.some.injEq, TypeDesc.slice.injEq] at heq
      subst heq
      split at h
      · rename_i hb
        obtain ⟨elems, he1, h⟩ := Option.bind_eq_some_iff.1 h
        obtain ⟨rest, _, h⟩ := Option.map_eq_some_iff.1 h
        refine .inr ⟨a, len, cap, rfl, hb.2.1, hb.2.2, elems, rest.map (·.1), he1, ?_⟩
        rw [← h]
      · cases h
    rcases key with rfl | ⟨a, len, cap, rfl, h1, h2, elems, rest, he1, hy⟩
    · exact ⟨[], ⟨none, 0, rfl, by simp, by simp [Kd.C, ReadsRow]⟩, by simp⟩
    · rw [hc] at he1
      have hm := mapM_get he1
      obtain ⟨xs, x1, x2, x3⟩ := choose_list (ok := ok) (Q := fun i x => ∃ c, W.cells? 0 (a.add (i * d.sz)) d.sz = some c ∧ d.K W x c) len (fun i hi => by
        obtain ⟨z, hz⟩ := hm.2 i i (by simp [hi])
        have hmem := mapM_mem he1 i z (by simp [hi]) hz
        obtain ⟨c, hc1, hc2⟩ := Option.bind_eq_some_iff.1 hz
        obtain ⟨x, hx, hk⟩ := he H enc W sp held n c z hc2 (fun q hq => hw q (by
          rw [hy]
          simp only [DataW.weights, hu]
          exact List.mem_cons_of_mem _ (List.mem_append_left _ (weightsAll_mem (List.mem_map_of_mem hmem) hq))))
        exact ⟨x, ⟨c, hc1, hx⟩, hk⟩)
      refine ⟨xs, ⟨some a, cap, by rw [x1], by omega, ?_⟩, x3⟩
      refine ⟨rfl, by have : maxLen = 9223372036854775807 := rfl; omega, fun _ => ⟨a, rfl, fun j p hp => ?_⟩⟩
      obtain ⟨c, hc1, hk⟩ := x2 j p hp
      have hg := cells_get hc1
      refine ⟨c, hg.1, hk, fun i u hiu => ?_⟩
      have := hg.2 i u hiu
      rw [← this]
      congr 1
      unfold Addr.add
      by_cases z1 : j * d.sz = 0
      · rw [if_pos z1]
        by_cases z2 : i = 0
        · simp [z1, z2]
        · rw [if_neg (by omega), if_neg z2]; simp [z1]
      · rw [if_neg z1, if_neg (by omega)]
        by_cases z2 : i = 0
        · simp [z2]
        · rw [if_neg z2]; simp [Nat.add_assoc]
theorem opensW_array {t e n : Nat} {d : Kd α} {ok : α → Prop} (hs : 0 < d.sz) (hu : P.underlying t = some (.array n e)) (he : OpensW P e d ok) (hc : P.cellsOf e = d.sz) (ht : P.cellsOf t = n * d.sz) : OpensW P t (Kd.arr n d hs) (fun xs => ∀ x ∈ xs, ok x) := by
  intro H enc W sp held fuel cs y h hw
  cases fuel with
  | zero => simp [DataW.trod] at h
  | succ m =>
    simp only [DataW.trod, hu] at h
    split at h
    · rename_i hl
      obtain ⟨ys, hy, hyy⟩ := Option.map_eq_some_iff.1 h
      have hm := mapM_get hy
      obtain ⟨xs, x1, x2, x3⟩ := choose_list (ok := ok) (Q := fun i x => d.K W x ((cs.drop (i * d.sz)).take d.sz)) n (fun i hi => by
        obtain ⟨z, hz⟩ := hm.2 i i (by simp [hi])
        have hmem := mapM_mem hy i z (by simp [hi]) hz
        rw [hc] at hz
        exact he H enc W sp held m _ z hz (fun q hq => hw q (by
          rw [← hyy]
          simp only [DataW.weights, hu]
          exact weightsAll_mem (List.mem_map_of_mem hmem) hq)))
      exact ⟨xs, ⟨x1, by rw [x1, hl, ht], x2⟩, x3⟩
    · cases h
/-- an argument of a kind -/
theorem opensW_arg {t : TypeId} {d : Kd α} {ok : α → Prop} (ho : OpensW P t d ok) {H : Type} {enc : TypeId × Value → H} {W : World} {sp : Nat → Bool} {held : Bool} {v : Value} {y : DataW H} {ps : List MemPlace} {ts : List TypeId} {ds : List (DataW H)} {j : Nat}
    (hsz : (DataW.weightsEach P ts ds).all (· ≤ reachBytes) = true) (ht : ts[j]? = some t) (hd : ds[j]? = some y) (h : DataW.Trod enc P W 0 sp held t v y ps) : ∃ x, d.K W x v.cells.toList ∧ ok x := by
  obtain ⟨fuel, hf⟩ := h
  exact ho H enc W sp held fuel _ _ hf (fun n hn => by
    have := List.all_eq_true.1 hsz _ (DataW.weights_mem_each ht hd n hn)
    simpa using this)
end
end Go.Proofs.YteaefambkagpbaaO

-- OpenS
namespace Go.Proofs.YteaefambkagpbaaO
set_option linter.unusedSimpArgs false
open Go Go.RowKit Go.ChangeShapes Go.WideShapes Go.ChangeAt Go.Proofs.YteaefambkagpbaaW.PrintWords
section
variable {P : Program} {α β : Type}
/-- the fields from a place on -/
def OpensF (P : Program) (fs : List Field) (off : Nat) (d : Kd α) (ok : α → Prop) : Prop :=
  ∀ (H : Type) (enc : TypeId × Value → H) (W : World) (sp : Nat → Bool) (held : Bool) (fuel : Nat) (cs : List Value) (ys : List (DataW H × List MemPlace)),
    fs.mapM (fun f => DataW.trod enc P W 0 sp held fuel f.type ((cs.drop f.offset).take (P.cellsOf f.type))) = some ys → (∀ n ∈ DataW.weightsEach P (fs.map (·.type)) (ys.map (·.1)), n ≤ reachBytes) →
    ∃ x, d.K W x ((cs.drop off).take d.sz) ∧ ok x
theorem opensF_one {f : Field} {d : Kd α} {ok : α → Prop} (h : OpensW P f.type d ok) (hc : P.cellsOf f.type = d.sz) : OpensF P [f] f.offset d ok := by
  intro H enc W sp held fuel cs ys hy hw
  simp only [List.mapM_cons, List.mapM_nil] at hy
  obtain ⟨y, hy1, hy⟩ := Option.bind_eq_some_iff.1 hy
  simp at hy
  subst hy
  rw [hc] at hy1
  exact h H enc W sp held fuel _ y hy1 fun n hn => hw n (by simp [DataW.weightsEach, hn])
theorem opensF_cons {f : Field} {fs : List Field} {d : Kd α} {d2 : Kd β} {ok : α → Prop} {ok2 : β → Prop} (h : OpensW P f.type d ok) (hc : P.cellsOf f.type = d.sz) (h2 : OpensF P fs (f.offset + d.sz) d2 ok2) :
    OpensF P (f :: fs) f.offset (Kd.pair d d2) (fun x => ok x.1 ∧ ok2 x.2) := by
  intro H enc W sp held fuel cs ys hy hw
  simp only [List.mapM_cons] at hy
  obtain ⟨y, hy1, hy⟩ := Option.bind_eq_some_iff.1 hy
  obtain ⟨ys2, hy2, hy⟩ := Option.bind_eq_some_iff.1 hy
  simp at hy
  subst hy
  rw [hc] at hy1
  obtain ⟨x1, k1, o1⟩ := h H enc W sp held fuel _ y hy1 fun n hn => hw n (by simp [DataW.weightsEach, hn])
  obtain ⟨x2, k2, o2⟩ := h2 H enc W sp held fuel cs ys2 hy2 fun n hn => hw n (by
    simp only [List.map_cons, DataW.weightsEach]
    exact List.mem_append_right _ hn)
  refine ⟨(x1, x2), ⟨_, _, ?_, k1, k2⟩, o1, o2⟩
  show (cs.drop f.offset).take (d.sz + d2.sz) = _
  rw [List.take_add, List.drop_drop]
theorem opensW_struct {t : TypeId} {fs : Array Field} {d : Kd α} {ok : α → Prop} (hu : P.underlying t = some (.struct fs)) (h : OpensF P fs.toList 0 d ok) (hc : P.cellsOf t = d.sz) : OpensW P t d ok := by
  intro H enc W sp held fuel cs y hy hw
  cases fuel with
  | zero => simp [DataW.trod] at hy
  | succ n =>
    have key : cs.length = P.cellsOf t ∧ ∃ ys, fs.toList.mapM (fun f => DataW.trod enc P W 0 sp held n f.type ((cs.drop f.offset).take (P.cellsOf f.type))) = some ys ∧ y.1 = .agg (ys.map (·.1)) := by
      simp only [DataW.trod, hu] at hy
      split at hy
      · rename_i hl
        obtain ⟨ys, h1, h2⟩ := Option.map_eq_some_iff.1 hy
        exact ⟨hl, ys, h1, by rw [← h2]⟩
      · cases hy
    obtain ⟨hl, ys, hy1, hy2⟩ := key
    obtain ⟨x, hx, ho⟩ := h H enc W sp held n cs ys hy1 fun q hq => hw q (by
      rw [hy2]
      simp only [DataW.weights, hu]
      exact hq)
    refine ⟨x, ?_, ho⟩
    rw [List.drop_zero, ← hc, ← hl, List.take_length] at hx
    exact hx
theorem opensW_iso {t : TypeId} {d : Kd α} {ok : α → Prop} (f : β → α) (g : α → β) (hfg : ∀ x, f (g x) = x) (h : OpensW P t d ok) : OpensW P t (Kd.iso d f) (fun x => ok (f x)) := by
  intro H enc W sp held fuel cs y hy hw
  obtain ⟨x, hx, ho⟩ := h H enc W sp held fuel cs y hy hw
  exact ⟨g x, by show d.K W (f (g x)) cs; rw [hfg]; exact hx, by show ok (f (g x)); rw [hfg]; exact ho⟩
theorem okWide_struct {t : TypeId} {fs : Array Field} {r : Reach} {b0 : Nat} {v : Value} {W : World} (hu : P.underlying t = some (.struct fs)) (h : Value.okWide P W r b0 t v) : ∃ cs, v = .agg cs ∧ cs.size = P.cellsOf t := by
  simp only [Value.okWide, hu] at h
  obtain ⟨cs, h1, h2, _⟩ := h
  exact ⟨cs, h1, h2⟩
end
end Go.Proofs.YteaefambkagpbaaO

-- RowLinkNils
namespace Go.Proofs.Yteaefambkagpbaa.linkNils
open Go.ChangeShapes Go.WideShapes Go.ChangeAt Go.RowKit
open Go.ChangeMaps (open_string shut_string)
set_option linter.unusedVariables false
set_option linter.unusedSimpArgs false
theorem own : ownKnob Try.prog.godebug = none := by kernel_rfl
theorem laidOut : laidOutB Try.prog = true := by kernel_rfl
set_option maxRecDepth 100000 in
theorem lifted (os : Os) (started : os.Started) (H : Type) (enc : TypeId × Value → H) :
    ReturnsInHanded {} Try.checked os 6 .any (Rows.linkNilsSpec.pre6 enc Try.prog Try.f6 Rows.linkNilsRow.domain false) (Rows.linkNilsSpec.post enc Try.prog Try.f6 false true false false) := by
  refine returnsInHanded_of_change_sized (C := Try.checked) own started (by kernel_rfl) Try.func6
    (ChangeSpec.witness6 (enc := enc) (C := Try.checked) false ⟨#[], #[.agg #[.bool false, .int .i64 0, .bool false, .string ByteArray.empty, .int .i64 0], .int .i64 0], []⟩ 8 (by kernel_rfl) (by kernel_rfl) (by kernel_rfl) (by kernel_rfl)) ?_
  intro W base args ds gs before hval0 hW hcnd hsz0 _
  have hsz : (DataW.weightsEach Try.prog (Try.f6.params.toList ++ Rows.linkNilsSpec.plain.varTypes Try.prog) (ds ++ gs)).all (· ≤ reachBytes) = true := hsz0
  have hval : ∀ (j : Nat) t v, Try.f6.params[j]? = some t → args[j]? = some v → Value.okWide Try.prog W .any base t v := hval0
  have hW' := hW
  obtain ⟨p, q, hA0, hV, rfl, hfz, hnd⟩ := hW
  have hA : DataW.TrodAll enc Try.prog W 0 (fun _ => true) true Try.f6.params.toList args.toList ds p := hA0
  rw [Try.params6] at hA hval hsz
  obtain ⟨v0, vs0, d0, ds0, p0, q0, hargs, rfl, rfl, h0, r0⟩ := trodAll_cons hA
  obtain ⟨v1, vs1, d1, ds1, p1, q1, rfl, rfl, rfl, h1, r1⟩ := trodAll_cons r0
  obtain ⟨rfl, rfl, rfl⟩ := trodAll_nil r1
  obtain rfl : args = #[v0, v1] := by cases args; simp_all
  obtain ⟨rfl, rfl⟩ := trodVars_none hV
  have k0 := h0
  have lt0 : ∀ x ∈ p0, x.block < W.heap.size := by obtain ⟨m, hm⟩ := k0; exact DataW.trod_lt m _ _ _ hm
  obtain ⟨cs0, rfl, hcs0⟩ := Go.Proofs.YteaefambkagpbaaO.okWide_struct Try.underlying23 (hval 0 23 v0 rfl rfl)
  obtain ⟨⟨x0_0, x0_1, x0_2, x0_3, x0_4⟩, ⟨c0_0, r0_0, e0_0, K0_0, c0_1, r0_1, e0_1, K0_1, c0_2, r0_2, e0_2, K0_2, c0_3, c0_4, e0_3, K0_3, K0_4⟩, ok0_0, ok0_1, ok0_2, ok0_3, ok0_4⟩ := Go.Proofs.YteaefambkagpbaaO.opensW_arg (d := (Go.Proofs.YteaefambkagpbaaW.PrintWords.Kd.pair Go.Proofs.YteaefambkagpbaaW.PrintWords.Kd.bool (Go.Proofs.YteaefambkagpbaaW.PrintWords.Kd.pair (Go.Proofs.YteaefambkagpbaaW.PrintWords.Kd.int .i64) (Go.Proofs.YteaefambkagpbaaW.PrintWords.Kd.pair Go.Proofs.YteaefambkagpbaaW.PrintWords.Kd.bool (Go.Proofs.YteaefambkagpbaaW.PrintWords.Kd.pair Go.Proofs.YteaefambkagpbaaW.PrintWords.Kd.string (Go.Proofs.YteaefambkagpbaaW.PrintWords.Kd.int .i64)))))) (Go.Proofs.YteaefambkagpbaaO.opensW_struct Try.underlying23 (Go.Proofs.YteaefambkagpbaaO.opensF_cons (Go.Proofs.YteaefambkagpbaaO.Opens.w (Go.Proofs.YteaefambkagpbaaO.opens_bool Try.underlying4)) (by kernel_rfl) (Go.Proofs.YteaefambkagpbaaO.opensF_cons (Go.Proofs.YteaefambkagpbaaO.Opens.w (Go.Proofs.YteaefambkagpbaaO.opens_int Try.underlying3)) (by kernel_rfl) (Go.Proofs.YteaefambkagpbaaO.opensF_cons (Go.Proofs.YteaefambkagpbaaO.Opens.w (Go.Proofs.YteaefambkagpbaaO.opens_bool Try.underlying4)) (by kernel_rfl) (Go.Proofs.YteaefambkagpbaaO.opensF_cons (Go.Proofs.YteaefambkagpbaaO.opensW_string Try.underlying9) (by kernel_rfl) (Go.Proofs.YteaefambkagpbaaO.opensF_one (Go.Proofs.YteaefambkagpbaaO.Opens.w (Go.Proofs.YteaefambkagpbaaO.opens_int Try.underlying3)) (by kernel_rfl)))))) (by kernel_rfl)) hsz (j := 0) (t := 23) rfl rfl h0
  obtain rfl := K0_0
  obtain rfl := K0_1
  obtain rfl := K0_2
  obtain rfl := K0_3
  obtain rfl := K0_4
  subst e0_3
  subst e0_2
  subst e0_1
  obtain rfl : cs0 = #[.bool x0_0, .int .i64 x0_1, .bool x0_2, .string x0_3, .int .i64 x0_4] := Array.ext' (by first | exact e0_0 | simpa using e0_0)
  obtain ⟨a1, rfl, rfl, rfl, w1⟩ := open_int Try.underlying3 (hval 1 3 v1 rfl rfl) h1
  clear hA0 hval0 hsz0 hsz
  refine (Go.Proofs.YteaefambkagpbaaR.is_tells (Go.Proofs.Yteaefambkagpbaa.F.LinkNils_c W x0_0 x0_1 x0_2 x0_3 x0_4 a1 ok0_0 ok0_1 ok0_2 ok0_3 ok0_4 w1)).mono fun e W' ⟨he, bel⟩ => ?_
  subst he
  exact ⟨_, rfl, _, _, _, [], _, [], hW', trodAll_mk1 (shut_bool Try.underlying4 _), (trodAll_cons_mk (Below.trod laidOut (by kernel_rfl) (of_decide_eq_true (by kernel_rfl)) k0 bel lt0) (trodAll_cons_mk (shut_int Try.underlying3 w1) trodAll_mk0)), rfl, bel.frame _, fun h => by cases h⟩
theorem over : Rows.linkNilsRow.holds Try.pinned (OpenSpec.ofChange Rows.linkNilsSpec) :=
  OpenClaim.holds_of_wide 6 Try.f6 rfl rfl rfl rfl rfl rfl rfl ⟨rfl, rfl, rfl, rfl, rfl⟩ rfl rfl rfl rfl rfl (by kernel_rfl) Try.func6 (by kernel_rfl)
    (of_decide_eq_true (by kernel_rfl)) (by unfold Func.isWrapper; first | (rw [if_pos (by decide +kernel)]; kernel_rfl) | (rw [if_neg (by decide +kernel)]; exact ⟨rfl, rfl⟩))
    (fun os started H enc _ => lifted os started H enc)
end Go.Proofs.Yteaefambkagpbaa.linkNils
namespace Go.Proofs.Yteaefambkagpbaa
/-- The row, under a short name, for the claim. -/
theorem linkNils_holds : Rows.LinkNilsSaid := linkNils.over
#print axioms linkNils_holds
end Go.Proofs.Yteaefambkagpbaa
