/- Texts of this seat laid together: F32, F29, F40, F11, F16, F13, F9, AudM, NumP, AudN, MacL, Grp, AudC, AudD, RowO, RegB, AudE. -/
import Derived.Test.YtmifoihfpjomaaaSA
import Derived.Test.YtmifoihfpjomaaaSC
import Derived.Lib.Hide
import Derived.Test.YtmifoihfpjomaaaSB
import Derived.Test.YtmifoihfpjomaaaVEqStruct
import Derived.Maps.GroupsBeside
import Derived.Maps.Range
import Derived.Laws.MakeOwn

-- F32
namespace Go.Proofs.Ytmifoihfpjomaaa.F
open Go.RowKit Go.Proofs.YtmifoihfpjomaaaW.PrintWords Go.Proofs.YtmifoihfpjomaaaW.PrintLast Go.Proofs.YtmifoihfpjomaaaW.PrintMore
attribute [local go_sem] max2_int min2_int max_two min_two max_three min_three max_four min_four   -- for this text's walks alone
set_option linter.unusedVariables false
set_option linter.unusedSimpArgs false

/-! ### audit_bytes: function 32 -/
def audit_bytes.f (k : Nat) (a0_0 : Int) (a0_1 : Int) (a0_2 : Int) (a0_3 : ByteArray) (a0_4 : Int) : Option (ByteArray) := (num_Put.f k ([] : List Int) (IntKind.u64.wrap (a0_0))).bind fun t158 => ((num_Put.f k t158 (IntKind.u64.wrap (a0_1))).bind fun t161 => ((num_Put.f k t161 (IntKind.u64.wrap (a0_2))).bind fun t164 => ((num_PutText.f k t164 a0_3).bind fun t167 => ((num_Put.f k t167 (IntKind.u64.wrap (a0_4))).bind fun t170 => (some (strOfNums t170))))))
def audit_bytes.T1 : Bool × List (List Nat × List Nat) := (true, [([], []), ([0], [0]), ([1], [1]), ([2], [2]), ([], []), ([4], [4]), ([5], [5]), ([3, 6, 3], [3, 6]), ([], []), ([8], [8]), ([9], [9]), ([7, 10, 7], [7, 10]), ([11, 11, 0, 1, 2, 3, 4, 5, 6, 7, 8, 9, 10, 11], [11])])
def audit_bytes.B1 : List Nat := [0, 1, 3, 7, 0, 16, 48, 127, 0, 256, 768, 2047, 4095]
theorem audit_bytes.tab1 : rtab .any (opsOf Try.f32 1) = audit_bytes.T1 := by kernel_rfl
theorem audit_bytes.bits1 : waitsOk audit_bytes.T1.2 audit_bytes.B1 = true := by kernel_rfl
def audit_bytes.T2 : Bool × List (List Nat × List Nat) := (true, [([], []), ([], []), ([1], [1]), ([0, 2], [0, 2]), ([], []), ([4], [4]), ([5], [5]), ([3, 6, 3], [3, 6]), ([7], [7]), ([8, 7, 0, 1, 2, 3, 4, 5, 6, 7, 8], [8])])
def audit_bytes.B2 : List Nat := [0, 0, 2, 7, 0, 16, 48, 127, 255, 511]
theorem audit_bytes.tab2 : rtab .any (opsOf Try.f32 2) = audit_bytes.T2 := by kernel_rfl
theorem audit_bytes.bits2 : waitsOk audit_bytes.T2.2 audit_bytes.B2 = true := by kernel_rfl
set_option maxHeartbeats 8000000 in
set_option maxRecDepth 100000 in
theorem audit_bytes.calls (k : Nat) (a0_0 : Int) (a0_1 : Int) (a0_2 : Int) (a0_3 : ByteArray) (a0_4 : Int) (r : ByteArray) (w : World) (h : audit_bytes.f k a0_0 a0_1 a0_2 a0_3 a0_4 = some r) :
    Calls Try.prog 32 #[.agg #[.int .i64 a0_0, .int .i64 a0_1, .int .i64 a0_2, .string a0_3, .int .i64 a0_4]] w fun e w' => e = .returned (.string r) ∧ Below w.heap.size w w' := by
  have hu36 := Try.underlying36
  have HB := Aside0.mk (Below.refl w.heap.size w)
  have H : ((num_Put.f k ([] : List Int) (IntKind.u64.wrap (a0_0))).bind fun t158 => ((num_Put.f k t158 (IntKind.u64.wrap (a0_1))).bind fun t161 => ((num_Put.f k t161 (IntKind.u64.wrap (a0_2))).bind fun t164 => ((num_PutText.f k t164 a0_3).bind fun t167 => ((num_Put.f k t167 (IntKind.u64.wrap (a0_4))).bind fun t170 => (some (strOfNums t170))))))) = some r := h
  clear h
  replace H := Option.bind_eq_some_iff.mp H
  obtain ⟨t158, A20, H⟩ := H
  replace H : ((num_Put.f k t158 (IntKind.u64.wrap (a0_1))).bind fun t161 => ((num_Put.f k t161 (IntKind.u64.wrap (a0_2))).bind fun t164 => ((num_PutText.f k t164 a0_3).bind fun t167 => ((num_Put.f k t167 (IntKind.u64.wrap (a0_4))).bind fun t170 => (some (strOfNums t170)))))) = some r := H
  have A2 := Aside0.mk A20
  clear A20
  replace H := Option.bind_eq_some_iff.mp H
  obtain ⟨t161, A30, H⟩ := H
  replace H : ((num_Put.f k t161 (IntKind.u64.wrap (a0_2))).bind fun t164 => ((num_PutText.f k t164 a0_3).bind fun t167 => ((num_Put.f k t167 (IntKind.u64.wrap (a0_4))).bind fun t170 => (some (strOfNums t170))))) = some r := H
  have A3 := Aside0.mk A30
  clear A30
  replace H := Option.bind_eq_some_iff.mp H
  obtain ⟨t164, A40, H⟩ := H
  replace H : ((num_PutText.f k t164 a0_3).bind fun t167 => ((num_Put.f k t167 (IntKind.u64.wrap (a0_4))).bind fun t170 => (some (strOfNums t170)))) = some r := H
  have A4 := Aside0.mk A40
  clear A40
  replace H := Option.bind_eq_some_iff.mp H
  obtain ⟨t167, A50, H⟩ := H
  replace H : ((num_Put.f k t167 (IntKind.u64.wrap (a0_4))).bind fun t170 => (some (strOfNums t170))) = some r := H
  have A5 := Aside0.mk A50
  clear A50
  replace H := Option.bind_eq_some_iff.mp H
  obtain ⟨t170, A60, H⟩ := H
  replace H : (some (strOfNums t170)) = some r := H
  have A6 := Aside0.mk A60
  clear A60
  obtain rfl := Option.some.inj H
  go_enter Try.func32, Try.ntmps32
  try go_wp2_with (first | ((with_reducible refine gate_dst (N := 1) rfl ?_); refine box_event ?hg (N := 1) ?hd (cs := #[.int .i64 a0_0, .int .i64 a0_1, .int .i64 a0_2, .string a0_3, .int .i64 a0_4]) (t := 36) ?hr ?_; (case hd => rfl); (case hg => rfl); (case hr => first | (go_simp; done) | (go_simp; rfl)); intro gb157 hg w7 hbox hb; have n0_ := Aside0.mk (below_step (by repeat (first | (with_reducible first | exact HB.out | apply below_alloc | apply pw_below_drewN | apply below_drew1) | exact HB.out)) hb); have n1_ := Aside0.mk (hbox); have n2_ := Aside0.mk ((by rw [hg]; exact (below_size (by repeat (first | (with_reducible first | exact HB.out | apply below_alloc | apply pw_below_drewN | apply below_drew1) | exact HB.out))) : w.heap.size ≤ gb157)); have n3_ := Aside0.mk ((by rw [hg]; exact (below_size (by repeat (first | (with_reducible first | exact HB.out | apply below_alloc | apply pw_below_drewN | apply below_drew1) | exact HB.out))) : w.heap.size ≤ gb157)); clear HB; have HB := n0_; have BK157 := n1_; have GW157 := n2_; have GE157 := n3_; clear n0_ n1_ n2_ n3_; clear hb hbox hg))
  have n0_ := Aside0.mk (blk_drew BK157.out)
  have n1_ := Aside0.mk (below_drew1 HB.out)
  clear BK157
  clear HB
  have BK157 := n0_
  have HB := n1_
  clear n0_ n1_
  refine start_ (n := 13) (S := fun w' => w'.cell? ⟨gb157, 0, none⟩ = some (.int .i64 a0_0) ∧ w'.cell? ⟨gb157, 1, none⟩ = some (.int .i64 a0_1) ∧ w'.cell? ⟨gb157, 2, none⟩ = some (.int .i64 a0_2) ∧ w'.cell? ⟨gb157, 3, none⟩ = some (.string a0_3) ∧ w'.cell? ⟨gb157, 4, none⟩ = some (.int .i64 a0_4)) (ds := []) #[false, false, false, false, false, false, false, false, false, false, false, false, false] (by kernel_rfl) rfl rfl ⟨(blk_cell BK157.out 0).trans rfl, (blk_cell BK157.out 1).trans rfl, (blk_cell BK157.out 2).trans rfl, (blk_cell BK157.out 3).trans rfl, (blk_cell BK157.out 4).trans rfl⟩ (fun hHeld => ?_); refine with_tabW audit_bytes.tab1 audit_bytes.bits1 (fun HT_ HW_ => ?_)
  generalize w7.drew = w8 at BK157 HB hHeld ⊢
  refine pure_ (i := 0) (N := some 4) (v := ?_) (a' := ?_) #[true, false, false, false, false, false, false, false, false, false, false, false, false] rfl rfl (any_of HT_.out (by kernel_rfl)) (fun _ _ _ h => h) (Or.inl ⟨by rfl, ?_⟩) ?_ ?_
  rotate_left
  · intro w'
    go_simp
    with_reducible rfl
  rotate_left
  · simp only [Act.put, List.setIfInBounds_toArray, List.set_cons_zero, List.set_cons_succ, i64_w, i32_w]
    rfl
  refine pure_ (i := 4) (N := some 8) (v := ?_) (a' := ?_) #[true, false, false, false, true, false, false, false, false, false, false, false, false] rfl rfl (any_of HT_.out (by kernel_rfl)) (fun _ _ _ h => h) (Or.inl ⟨by rfl, ?_⟩) ?_ ?_
  rotate_left
  · intro w'
    go_simp
    with_reducible rfl
  rotate_left
  · simp only [Act.put, List.setIfInBounds_toArray, List.set_cons_zero, List.set_cons_succ, i64_w, i32_w]
    rfl
  refine pure_ (i := 8) (N := some 12) (v := ?_) (a' := ?_) #[true, false, false, false, true, false, false, false, true, false, false, false, false] rfl rfl (any_of HT_.out (by kernel_rfl)) (fun _ _ _ h => h) (Or.inl ⟨by rfl, ?_⟩) ?_ ?_
  rotate_left
  · intro w'
    go_simp
    with_reducible rfl
  rotate_left
  · simp only [Act.put, List.setIfInBounds_toArray, List.set_cons_zero, List.set_cons_succ, i64_w, i32_w]
    rfl
  refine take_ (i := 1) (N := some 5) (v := ?_) (a' := ?_) #[true, true, false, false, true, false, false, false, true, false, false, false, false] rfl rfl (take_ofW HT_.out HW_.out (by kernel_rfl)) (fun _ _ _ h => h) (Or.inl ⟨by rfl, ?_⟩) hHeld ?_ ?_
  rotate_left
  · rintro w' ⟨s0, s1, s2, s3, s4⟩
    go_simp
    with_reducible rfl
  rotate_left
  · simp only [Act.put, List.setIfInBounds_toArray, List.set_cons_zero, List.set_cons_succ, i64_w, i32_w]
    rfl
  refine pure_ (i := 2) (N := some 6) (v := ?_) (a' := ?_) #[true, true, true, false, true, false, false, false, true, false, false, false, false] rfl rfl (any_of HT_.out (by kernel_rfl)) (fun _ _ _ h => h) (Or.inl ⟨by rfl, ?_⟩) ?_ ?_
  rotate_left
  · intro w'
    go_simp
    with_reducible rfl
  rotate_left
  · simp only [Act.put, List.setIfInBounds_toArray, List.set_cons_zero, List.set_cons_succ, i64_w, i32_w]
    rfl
  refine take_ (i := 5) (N := some 9) (v := ?_) (a' := ?_) #[true, true, true, false, true, true, false, false, true, false, false, false, false] rfl rfl (take_ofW HT_.out HW_.out (by kernel_rfl)) (fun _ _ _ h => h) (Or.inl ⟨by rfl, ?_⟩) hHeld ?_ ?_
  rotate_left
  · rintro w' ⟨s0, s1, s2, s3, s4⟩
    go_simp
    with_reducible rfl
  rotate_left
  · simp only [Act.put, List.setIfInBounds_toArray, List.set_cons_zero, List.set_cons_succ, i64_w, i32_w]
    rfl
  refine pure_ (i := 6) (N := some 10) (v := ?_) (a' := ?_) #[true, true, true, false, true, true, true, false, true, false, false, false, false] rfl rfl (any_of HT_.out (by kernel_rfl)) (fun _ _ _ h => h) (Or.inl ⟨by rfl, ?_⟩) ?_ ?_
  rotate_left
  · intro w'
    go_simp
    with_reducible rfl
  rotate_left
  · simp only [Act.put, List.setIfInBounds_toArray, List.set_cons_zero, List.set_cons_succ, i64_w, i32_w]
    rfl
  refine take_ (i := 9) (N := some 13) (v := ?_) (a' := ?_) #[true, true, true, false, true, true, true, false, true, true, false, false, false] rfl rfl (take_ofW HT_.out HW_.out (by kernel_rfl)) (fun _ _ _ h => h) (Or.inl ⟨by rfl, ?_⟩) hHeld ?_ ?_
  rotate_left
  · rintro w' ⟨s0, s1, s2, s3, s4⟩
    go_simp
    with_reducible rfl
  rotate_left
  · simp only [Act.put, List.setIfInBounds_toArray, List.set_cons_zero, List.set_cons_succ, i64_w, i32_w]
    rfl
  refine pure_ (i := 10) (N := some 14) (v := ?_) (a' := ?_) #[true, true, true, false, true, true, true, false, true, true, true, false, false] rfl rfl (any_of HT_.out (by kernel_rfl)) (fun _ _ _ h => h) (Or.inl ⟨by rfl, ?_⟩) ?_ ?_
  rotate_left
  · intro w'
    go_simp
    with_reducible rfl
  rotate_left
  · simp only [Act.put, List.setIfInBounds_toArray, List.set_cons_zero, List.set_cons_succ, i64_w, i32_w]
    rfl
  refine one_ (i := 3) (N := some 7) #[true, true, true, true, true, true, true, false, true, true, true, false, false] rfl rfl (one_of HT_.out (by kernel_rfl)) (by decide) (fun K hK => ?_)
  refine goes_ Try.func46 (by kernel_rfl) rfl #[.slice none 0 0, .int .u64 (IntKind.u64.wrap (a0_0))] (by rfl) rfl rfl (by (try simp only [List.map_toArray, List.map_cons, List.map_nil]); first | done | rfl | (simp only [List.length_drop, List.length_take]; rfl)) ?_
  refine (num_Put.calls k _ _ ([] : List Int) (IntKind.u64.wrap (a0_0)) t158 _ ?side1 ?side2 A2.out).mono ?_
  (case side1 => exact Kd.C_nil _ _)
  (case side2 => exact Nat.le_refl _)
  rintro e w9 ⟨v159, rfl, ho0, hb⟩
  refine ⟨_, rfl, ?_⟩
  have n0_ := Aside0.mk (Kd.R_lower ho0 (below_size (by repeat (first | (with_reducible first | exact HB.out | apply below_alloc | apply pw_below_drewN | apply below_drew1 | refine below_set ?_ GE157.out) | exact HB.out))))
  have n1_ := Aside0.mk (blk_below (g := gb157) (o := .cells #[.int .i64 a0_0, .int .i64 a0_1, .int .i64 a0_2, .string a0_3, .int .i64 a0_4] 36 (0, 0)) (by (with_reducible repeat (first | refine blk_drewN ?_ _ | refine blk_drew ?_ | refine blk_alloc ?_ _)); exact BK157.out) hb)
  have n2_ := Aside0.mk (below_step (by repeat (first | (with_reducible first | exact HB.out | apply below_alloc | apply pw_below_drewN | apply below_drew1 | refine below_set ?_ GE157.out) | exact HB.out)) hb)
  clear BK157
  clear HB
  have HO160 := n0_
  have BK157 := n1_
  have HB := n2_
  clear n0_ n1_ n2_
  (try clear hb)
  (try clear hb2)
  (try clear hk)
  (try clear hi)
  (try clear ho0)
  obtain ⟨Ao10, co10, eo10⟩ := Kd.R_slice HO160.out
  (first | subst eo10 | (injection eo10 with f1_ f2_ f3_; have f4_ := f1_.symm; have f5_ := f3_.symm; clear f1_ f2_ f3_; subst f4_; subst f5_))
  refine hK.out _ _ ⟨(blk_cell BK157.out 0).trans rfl, (blk_cell BK157.out 1).trans rfl, (blk_cell BK157.out 2).trans rfl, (blk_cell BK157.out 3).trans rfl, (blk_cell BK157.out 4).trans rfl⟩ (fun hHeld => ?_)
  clear hK K
  refine norm_ (a' := ?_) ?_ ?_
  rotate_left
  · show Act.put _ (some 7) _ = _
    simp only [Act.put, List.setIfInBounds_toArray, List.set_cons_zero, List.set_cons_succ, i64_w, i32_w]
    rfl
  refine one_ (i := 7) (N := some 11) #[true, true, true, true, true, true, true, true, true, true, true, false, false] rfl rfl (one_of HT_.out (by kernel_rfl)) (by decide) (fun K hK => ?_)
  refine goes_ Try.func46 (by kernel_rfl) rfl #[.slice Ao10 t158.length co10, .int .u64 (IntKind.u64.wrap (a0_1))] (by rfl) rfl rfl (by (try simp only [List.map_toArray, List.map_cons, List.map_nil]); first | done | rfl | (simp only [List.length_drop, List.length_take]; rfl)) ?_
  with_reducible refine (num_Put.calls k _ _ t158 (IntKind.u64.wrap (a0_1)) t161 _ ?side1 ?side2 A3.out).mono ?_
  (case side1 => repeat (first | exact (Kd.R_reads' HO160.out).2.2 | (with_reducible refine Kd.C_alloc ?_ _) | (with_reducible refine Kd.C_drewN ?_ _) | (with_reducible refine Kd.C_drew ?_)))
  (case side2 => exact (Kd.R_reads' HO160.out).2.1)
  rintro e w11 ⟨v162, rfl, ho0, hb⟩
  refine ⟨_, rfl, ?_⟩
  have n0_ := Aside0.mk (Kd.R_elder' (by (with_reducible repeat (first | apply Kd.R_alloc | apply Kd.R_drewN | apply Kd.R_drew)); exact HO160.out) (Kd.R_base ho0) hb)
  have n1_ := Aside0.mk (Kd.R_lower (Kd.R_new' ho0 (Kd.R_lt (by (with_reducible repeat (first | apply Kd.R_alloc | apply Kd.R_drewN | apply Kd.R_drew)); exact HO160.out))) (below_size (by repeat (first | (with_reducible first | exact HB.out | apply below_alloc | apply pw_below_drewN | apply below_drew1 | refine below_set ?_ GE157.out) | exact HB.out))))
  have n2_ := Aside0.mk (blk_below (g := gb157) (o := .cells #[.int .i64 a0_0, .int .i64 a0_1, .int .i64 a0_2, .string a0_3, .int .i64 a0_4] 36 (0, 0)) (by (with_reducible repeat (first | refine blk_drewN ?_ _ | refine blk_drew ?_ | refine blk_alloc ?_ _)); exact BK157.out) hb)
  have n3_ := Aside0.mk (below_step (by repeat (first | (with_reducible first | exact HB.out | apply below_alloc | apply pw_below_drewN | apply below_drew1 | refine below_set ?_ GE157.out) | exact HB.out)) hb)
  clear HO160
  clear BK157
  clear HB
  have HO160 := n0_
  have HO163 := n1_
  have BK157 := n2_
  have HB := n3_
  clear n0_ n1_ n2_ n3_
  (try clear hb)
  (try clear hb2)
  (try clear hk)
  (try clear hi)
  (try clear ho0)
  obtain ⟨Ao12, co12, eo12⟩ := Kd.R_slice HO163.out
  (first | subst eo12 | (injection eo12 with f1_ f2_ f3_; have f4_ := f1_.symm; have f5_ := f3_.symm; clear f1_ f2_ f3_; subst f4_; subst f5_))
  refine hK.out _ _ ⟨(blk_cell BK157.out 0).trans rfl, (blk_cell BK157.out 1).trans rfl, (blk_cell BK157.out 2).trans rfl, (blk_cell BK157.out 3).trans rfl, (blk_cell BK157.out 4).trans rfl⟩ (fun hHeld => ?_)
  clear hK K
  refine norm_ (a' := ?_) ?_ ?_
  rotate_left
  · show Act.put _ (some 11) _ = _
    simp only [Act.put, List.setIfInBounds_toArray, List.set_cons_zero, List.set_cons_succ, i64_w, i32_w]
    rfl
  refine one_ (i := 11) (N := some 15) #[true, true, true, true, true, true, true, true, true, true, true, true, false] rfl rfl (one_of HT_.out (by kernel_rfl)) (by decide) (fun K hK => ?_)
  refine goes_ Try.func46 (by kernel_rfl) rfl #[.slice Ao12 t161.length co12, .int .u64 (IntKind.u64.wrap (a0_2))] (by rfl) rfl rfl (by (try simp only [List.map_toArray, List.map_cons, List.map_nil]); first | done | rfl | (simp only [List.length_drop, List.length_take]; rfl)) ?_
  with_reducible refine (num_Put.calls k _ _ t161 (IntKind.u64.wrap (a0_2)) t164 _ ?side1 ?side2 A4.out).mono ?_
  (case side1 => repeat (first | exact (Kd.R_reads' HO163.out).2.2 | (with_reducible refine Kd.C_alloc ?_ _) | (with_reducible refine Kd.C_drewN ?_ _) | (with_reducible refine Kd.C_drew ?_)))
  (case side2 => exact (Kd.R_reads' HO163.out).2.1)
  rintro e w13 ⟨v165, rfl, ho0, hb⟩
  refine ⟨_, rfl, ?_⟩
  have n0_ := Aside0.mk (Kd.R_elder' (by (with_reducible repeat (first | apply Kd.R_alloc | apply Kd.R_drewN | apply Kd.R_drew)); exact HO160.out) (Kd.R_base ho0) hb)
  have n1_ := Aside0.mk (Kd.R_elder' (by (with_reducible repeat (first | apply Kd.R_alloc | apply Kd.R_drewN | apply Kd.R_drew)); exact HO163.out) (Kd.R_base ho0) hb)
  have n2_ := Aside0.mk (Kd.R_lower (Kd.R_new' (Kd.R_new' ho0 (Kd.R_lt (by (with_reducible repeat (first | apply Kd.R_alloc | apply Kd.R_drewN | apply Kd.R_drew)); exact HO160.out))) (Kd.R_lt (by (with_reducible repeat (first | apply Kd.R_alloc | apply Kd.R_drewN | apply Kd.R_drew)); exact HO163.out))) (below_size (by repeat (first | (with_reducible first | exact HB.out | apply below_alloc | apply pw_below_drewN | apply below_drew1 | refine below_set ?_ GE157.out) | exact HB.out))))
  have n3_ := Aside0.mk (blk_below (g := gb157) (o := .cells #[.int .i64 a0_0, .int .i64 a0_1, .int .i64 a0_2, .string a0_3, .int .i64 a0_4] 36 (0, 0)) (by (with_reducible repeat (first | refine blk_drewN ?_ _ | refine blk_drew ?_ | refine blk_alloc ?_ _)); exact BK157.out) hb)
  have n4_ := Aside0.mk (below_step (by repeat (first | (with_reducible first | exact HB.out | apply below_alloc | apply pw_below_drewN | apply below_drew1 | refine below_set ?_ GE157.out) | exact HB.out)) hb)
  clear HO160
  clear HO163
  clear BK157
  clear HB
  have HO160 := n0_
  have HO163 := n1_
  have HO166 := n2_
  have BK157 := n3_
  have HB := n4_
  clear n0_ n1_ n2_ n3_ n4_
  (try clear hb)
  (try clear hb2)
  (try clear hk)
  (try clear hi)
  (try clear ho0)
  refine hK.out _ _ ⟨(blk_cell BK157.out 0).trans rfl, (blk_cell BK157.out 1).trans rfl, (blk_cell BK157.out 2).trans rfl, (blk_cell BK157.out 3).trans rfl, (blk_cell BK157.out 4).trans rfl⟩ (fun hHeld => ?_)
  clear hK K
  refine norm_ (a' := ?_) ?_ ?_
  rotate_left
  · show Act.put _ (some 15) _ = _
    simp only [Act.put, List.setIfInBounds_toArray, List.set_cons_zero, List.set_cons_succ, i64_w, i32_w]
    rfl
  refine pure_ (i := 12) (N := some 3) (v := ?_) (a' := ?_) #[true, true, true, true, true, true, true, true, true, true, true, true, true] rfl rfl (any_of HT_.out (by kernel_rfl)) (fun _ _ _ h => h) (Or.inl ⟨by rfl, ?_⟩) ?_ ?_
  rotate_left
  · intro w'
    go_simp
    with_reducible rfl
  rotate_left
  · simp only [Act.put, List.setIfInBounds_toArray, List.set_cons_zero, List.set_cons_succ, i64_w, i32_w]
    rfl
  refine done_ (done_of HT_.out (by kernel_rfl)) ?_
  try go_wp2
  have n0_ := Aside0.mk (Kd.R_drew HO160.out)
  have n1_ := Aside0.mk (Kd.R_drew HO163.out)
  have n2_ := Aside0.mk (Kd.R_drew HO166.out)
  have n3_ := Aside0.mk (blk_drew BK157.out)
  have n4_ := Aside0.mk (below_drew1 HB.out)
  clear HO160
  clear HO163
  clear HO166
  clear BK157
  clear HB
  have HO160 := n0_
  have HO163 := n1_
  have HO166 := n2_
  have BK157 := n3_
  have HB := n4_
  clear n0_ n1_ n2_ n3_ n4_
  obtain ⟨Ao15, co15, eo15⟩ := Kd.R_slice HO166.out
  (first | subst eo15 | (injection eo15 with f1_ f2_ f3_; have f4_ := f1_.symm; have f5_ := f3_.symm; clear f1_ f2_ f3_; subst f4_; subst f5_))
  refine start_ (n := 10) (S := fun w' => w'.cell? ⟨gb157, 0, none⟩ = some (.int .i64 a0_0) ∧ w'.cell? ⟨gb157, 1, none⟩ = some (.int .i64 a0_1) ∧ w'.cell? ⟨gb157, 2, none⟩ = some (.int .i64 a0_2) ∧ w'.cell? ⟨gb157, 3, none⟩ = some (.string a0_3) ∧ w'.cell? ⟨gb157, 4, none⟩ = some (.int .i64 a0_4)) (ds := []) #[false, false, false, false, false, false, false, false, false, false] (by kernel_rfl) rfl rfl ⟨(blk_cell BK157.out 0).trans rfl, (blk_cell BK157.out 1).trans rfl, (blk_cell BK157.out 2).trans rfl, (blk_cell BK157.out 3).trans rfl, (blk_cell BK157.out 4).trans rfl⟩ (fun hHeld => ?_); refine with_tabW audit_bytes.tab2 audit_bytes.bits2 (fun HT_ HW_ => ?_)
  generalize w13.drew = w14 at HO160 HO163 HO166 BK157 HB hHeld ⊢
  refine pure_ (i := 0) (N := some 16) (v := ?_) (a' := ?_) #[true, false, false, false, false, false, false, false, false, false] rfl rfl (any_of HT_.out (by kernel_rfl)) (fun _ _ _ h => h) (Or.inl ⟨by rfl, ?_⟩) ?_ ?_
  rotate_left
  · intro w'
    go_simp
    with_reducible rfl
  rotate_left
  · simp only [Act.put, List.setIfInBounds_toArray, List.set_cons_zero, List.set_cons_succ, i64_w, i32_w]
    rfl
  refine pure_ (i := 1) (N := some 17) (v := ?_) (a' := ?_) #[true, true, false, false, false, false, false, false, false, false] rfl rfl (any_of HT_.out (by kernel_rfl)) (fun _ _ _ h => h) (Or.inl ⟨by rfl, ?_⟩) ?_ ?_
  rotate_left
  · intro w'
    go_simp
    with_reducible rfl
  rotate_left
  · simp only [Act.put, List.setIfInBounds_toArray, List.set_cons_zero, List.set_cons_succ, i64_w, i32_w]
    rfl
  refine pure_ (i := 4) (N := some 20) (v := ?_) (a' := ?_) #[true, true, false, false, true, false, false, false, false, false] rfl rfl (any_of HT_.out (by kernel_rfl)) (fun _ _ _ h => h) (Or.inl ⟨by rfl, ?_⟩) ?_ ?_
  rotate_left
  · intro w'
    go_simp
    with_reducible rfl
  rotate_left
  · simp only [Act.put, List.setIfInBounds_toArray, List.set_cons_zero, List.set_cons_succ, i64_w, i32_w]
    rfl
  refine take_ (i := 2) (N := some 18) (v := ?_) (a' := ?_) #[true, true, true, false, true, false, false, false, false, false] rfl rfl (take_ofW HT_.out HW_.out (by kernel_rfl)) (fun _ _ _ h => h) (Or.inl ⟨by rfl, ?_⟩) hHeld ?_ ?_
  rotate_left
  · rintro w' ⟨s0, s1, s2, s3, s4⟩
    go_simp
    with_reducible rfl
  rotate_left
  · simp only [Act.put, List.setIfInBounds_toArray, List.set_cons_zero, List.set_cons_succ, i64_w, i32_w]
    rfl
  refine take_ (i := 5) (N := some 21) (v := ?_) (a' := ?_) #[true, true, true, false, true, true, false, false, false, false] rfl rfl (take_ofW HT_.out HW_.out (by kernel_rfl)) (fun _ _ _ h => h) (Or.inl ⟨by rfl, ?_⟩) hHeld ?_ ?_
  rotate_left
  · rintro w' ⟨s0, s1, s2, s3, s4⟩
    go_simp
    with_reducible rfl
  rotate_left
  · simp only [Act.put, List.setIfInBounds_toArray, List.set_cons_zero, List.set_cons_succ, i64_w, i32_w]
    rfl
  refine pure_ (i := 6) (N := some 22) (v := ?_) (a' := ?_) #[true, true, true, false, true, true, true, false, false, false] rfl rfl (any_of HT_.out (by kernel_rfl)) (fun _ _ _ h => h) (Or.inl ⟨by rfl, ?_⟩) ?_ ?_
  rotate_left
  · intro w'
    go_simp
    with_reducible rfl
  rotate_left
  · simp only [Act.put, List.setIfInBounds_toArray, List.set_cons_zero, List.set_cons_succ, i64_w, i32_w]
    rfl
  refine one_ (i := 3) (N := some 19) #[true, true, true, true, true, true, true, false, false, false] rfl rfl (one_of HT_.out (by kernel_rfl)) (by decide) (fun K hK => ?_)
  refine goes_ Try.func47 (by kernel_rfl) rfl #[.slice Ao15 t164.length co15, .string a0_3] (by rfl) rfl rfl (by (try simp only [List.map_toArray, List.map_cons, List.map_nil]); first | done | rfl | (simp only [List.length_drop, List.length_take]; rfl)) ?_
  with_reducible refine (num_PutText.calls k _ _ t164 a0_3 t167 _ ?side1 ?side2 A5.out).mono ?_
  (case side1 => repeat (first | exact (Kd.R_reads' HO166.out).2.2 | (with_reducible refine Kd.C_alloc ?_ _) | (with_reducible refine Kd.C_drewN ?_ _) | (with_reducible refine Kd.C_drew ?_)))
  (case side2 => exact (Kd.R_reads' HO166.out).2.1)
  rintro e w16 ⟨v168, rfl, ho0, hb⟩
  refine ⟨_, rfl, ?_⟩
  have n0_ := Aside0.mk (Kd.R_elder' (by (with_reducible repeat (first | apply Kd.R_alloc | apply Kd.R_drewN | apply Kd.R_drew)); exact HO160.out) (Kd.R_base ho0) hb)
  have n1_ := Aside0.mk (Kd.R_elder' (by (with_reducible repeat (first | apply Kd.R_alloc | apply Kd.R_drewN | apply Kd.R_drew)); exact HO163.out) (Kd.R_base ho0) hb)
  have n2_ := Aside0.mk (Kd.R_elder' (by (with_reducible repeat (first | apply Kd.R_alloc | apply Kd.R_drewN | apply Kd.R_drew)); exact HO166.out) (Kd.R_base ho0) hb)
  have n3_ := Aside0.mk (Kd.R_lower (Kd.R_new' (Kd.R_new' (Kd.R_new' ho0 (Kd.R_lt (by (with_reducible repeat (first | apply Kd.R_alloc | apply Kd.R_drewN | apply Kd.R_drew)); exact HO160.out))) (Kd.R_lt (by (with_reducible repeat (first | apply Kd.R_alloc | apply Kd.R_drewN | apply Kd.R_drew)); exact HO163.out))) (Kd.R_lt (by (with_reducible repeat (first | apply Kd.R_alloc | apply Kd.R_drewN | apply Kd.R_drew)); exact HO166.out))) (below_size (by repeat (first | (with_reducible first | exact HB.out | apply below_alloc | apply pw_below_drewN | apply below_drew1 | refine below_set ?_ GE157.out) | exact HB.out))))
  have n4_ := Aside0.mk (blk_below (g := gb157) (o := .cells #[.int .i64 a0_0, .int .i64 a0_1, .int .i64 a0_2, .string a0_3, .int .i64 a0_4] 36 (0, 0)) (by (with_reducible repeat (first | refine blk_drewN ?_ _ | refine blk_drew ?_ | refine blk_alloc ?_ _)); exact BK157.out) hb)
  have n5_ := Aside0.mk (below_step (by repeat (first | (with_reducible first | exact HB.out | apply below_alloc | apply pw_below_drewN | apply below_drew1 | refine below_set ?_ GE157.out) | exact HB.out)) hb)
  clear HO160
  clear HO163
  clear HO166
  clear BK157
  clear HB
  have HO160 := n0_
  have HO163 := n1_
  have HO166 := n2_
  have HO169 := n3_
  have BK157 := n4_
  have HB := n5_
  clear n0_ n1_ n2_ n3_ n4_ n5_
  (try clear hb)
  (try clear hb2)
  (try clear hk)
  (try clear hi)
  (try clear ho0)
  obtain ⟨Ao17, co17, eo17⟩ := Kd.R_slice HO169.out
  (first | subst eo17 | (injection eo17 with f1_ f2_ f3_; have f4_ := f1_.symm; have f5_ := f3_.symm; clear f1_ f2_ f3_; subst f4_; subst f5_))
  refine hK.out _ _ ⟨(blk_cell BK157.out 0).trans rfl, (blk_cell BK157.out 1).trans rfl, (blk_cell BK157.out 2).trans rfl, (blk_cell BK157.out 3).trans rfl, (blk_cell BK157.out 4).trans rfl⟩ (fun hHeld => ?_)
  clear hK K
  refine norm_ (a' := ?_) ?_ ?_
  rotate_left
  · show Act.put _ (some 19) _ = _
    simp only [Act.put, List.setIfInBounds_toArray, List.set_cons_zero, List.set_cons_succ, i64_w, i32_w]
    rfl
  refine one_ (i := 7) (N := some 23) #[true, true, true, true, true, true, true, true, false, false] rfl rfl (one_of HT_.out (by kernel_rfl)) (by decide) (fun K hK => ?_)
  refine goes_ Try.func46 (by kernel_rfl) rfl #[.slice Ao17 t167.length co17, .int .u64 (IntKind.u64.wrap (a0_4))] (by rfl) rfl rfl (by (try simp only [List.map_toArray, List.map_cons, List.map_nil]); first | done | rfl | (simp only [List.length_drop, List.length_take]; rfl)) ?_
  with_reducible refine (num_Put.calls k _ _ t167 (IntKind.u64.wrap (a0_4)) t170 _ ?side1 ?side2 A6.out).mono ?_
  (case side1 => repeat (first | exact (Kd.R_reads' HO169.out).2.2 | (with_reducible refine Kd.C_alloc ?_ _) | (with_reducible refine Kd.C_drewN ?_ _) | (with_reducible refine Kd.C_drew ?_)))
  (case side2 => exact (Kd.R_reads' HO169.out).2.1)
  rintro e w18 ⟨v171, rfl, ho0, hb⟩
  refine ⟨_, rfl, ?_⟩
  have n0_ := Aside0.mk (Kd.R_elder' (by (with_reducible repeat (first | apply Kd.R_alloc | apply Kd.R_drewN | apply Kd.R_drew)); exact HO160.out) (Kd.R_base ho0) hb)
  have n1_ := Aside0.mk (Kd.R_elder' (by (with_reducible repeat (first | apply Kd.R_alloc | apply Kd.R_drewN | apply Kd.R_drew)); exact HO163.out) (Kd.R_base ho0) hb)
  have n2_ := Aside0.mk (Kd.R_elder' (by (with_reducible repeat (first | apply Kd.R_alloc | apply Kd.R_drewN | apply Kd.R_drew)); exact HO166.out) (Kd.R_base ho0) hb)
  have n3_ := Aside0.mk (Kd.R_elder' (by (with_reducible repeat (first | apply Kd.R_alloc | apply Kd.R_drewN | apply Kd.R_drew)); exact HO169.out) (Kd.R_base ho0) hb)
  have n4_ := Aside0.mk (Kd.R_lower (Kd.R_new' (Kd.R_new' (Kd.R_new' (Kd.R_new' ho0 (Kd.R_lt (by (with_reducible repeat (first | apply Kd.R_alloc | apply Kd.R_drewN | apply Kd.R_drew)); exact HO160.out))) (Kd.R_lt (by (with_reducible repeat (first | apply Kd.R_alloc | apply Kd.R_drewN | apply Kd.R_drew)); exact HO163.out))) (Kd.R_lt (by (with_reducible repeat (first | apply Kd.R_alloc | apply Kd.R_drewN | apply Kd.R_drew)); exact HO166.out))) (Kd.R_lt (by (with_reducible repeat (first | apply Kd.R_alloc | apply Kd.R_drewN | apply Kd.R_drew)); exact HO169.out))) (below_size (by repeat (first | (with_reducible first | exact HB.out | apply below_alloc | apply pw_below_drewN | apply below_drew1 | refine below_set ?_ GE157.out) | exact HB.out))))
  have n5_ := Aside0.mk (blk_below (g := gb157) (o := .cells #[.int .i64 a0_0, .int .i64 a0_1, .int .i64 a0_2, .string a0_3, .int .i64 a0_4] 36 (0, 0)) (by (with_reducible repeat (first | refine blk_drewN ?_ _ | refine blk_drew ?_ | refine blk_alloc ?_ _)); exact BK157.out) hb)
  have n6_ := Aside0.mk (below_step (by repeat (first | (with_reducible first | exact HB.out | apply below_alloc | apply pw_below_drewN | apply below_drew1 | refine below_set ?_ GE157.out) | exact HB.out)) hb)
  clear HO160
  clear HO163
  clear HO166
  clear HO169
  clear BK157
  clear HB
  have HO160 := n0_
  have HO163 := n1_
  have HO166 := n2_
  have HO169 := n3_
  have HO172 := n4_
  have BK157 := n5_
  have HB := n6_
  clear n0_ n1_ n2_ n3_ n4_ n5_ n6_
  (try clear hb)
  (try clear hb2)
  (try clear hk)
  (try clear hi)
  (try clear ho0)
  refine hK.out _ _ ⟨(blk_cell BK157.out 0).trans rfl, (blk_cell BK157.out 1).trans rfl, (blk_cell BK157.out 2).trans rfl, (blk_cell BK157.out 3).trans rfl, (blk_cell BK157.out 4).trans rfl⟩ (fun hHeld => ?_)
  clear hK K
  refine norm_ (a' := ?_) ?_ ?_
  rotate_left
  · show Act.put _ (some 23) _ = _
    simp only [Act.put, List.setIfInBounds_toArray, List.set_cons_zero, List.set_cons_succ, i64_w, i32_w]
    rfl
  refine one_ (i := 8) (N := some 24) #[true, true, true, true, true, true, true, true, true, false] rfl rfl (one_of HT_.out (by kernel_rfl)) (by decide) (fun K hK => ?_)
  have hcv19 := own_string (P := Try.prog) Try.underlying45 Try.underlying5 Try.underlying9 (Kd.own_of_R HO172.out)
  refine value_ (w1 := ?_) (v := ?_) (by rfl) rfl ?_ ?_
  rotate_left 2
  · go_simp
    constructor
    · rfl
    · rfl
  clear hcv19
  refine hK.out _ _ ⟨(blk_cell BK157.out 0).trans rfl, (blk_cell BK157.out 1).trans rfl, (blk_cell BK157.out 2).trans rfl, (blk_cell BK157.out 3).trans rfl, (blk_cell BK157.out 4).trans rfl⟩ (fun hHeld => ?_)
  clear hK K
  refine norm_ (a' := ?_) ?_ ?_
  rotate_left
  · show Act.put _ (some 24) _ = _
    simp only [Act.put, List.setIfInBounds_toArray, List.set_cons_zero, List.set_cons_succ, i64_w, i32_w]
    rfl
  refine pure_ (i := 9) (N := some 2) (v := ?_) (a' := ?_) #[true, true, true, true, true, true, true, true, true, true] rfl rfl (any_of HT_.out (by kernel_rfl)) (fun _ _ _ h => h) (Or.inl ⟨by rfl, ?_⟩) ?_ ?_
  rotate_left
  · intro w'
    go_simp
    with_reducible rfl
  rotate_left
  · simp only [Act.put, List.setIfInBounds_toArray, List.set_cons_zero, List.set_cons_succ, i64_w, i32_w]
    rfl
  refine done_ (done_of HT_.out (by kernel_rfl)) ?_
  try go_wp2
  go_ret
  exact ⟨by first | rfl | (simp [errW_none, errW_some] <;> rfl) | (simp [*, errW_none, errW_some] <;> rfl), by repeat (first | (with_reducible first | exact HB.out | apply below_alloc | apply pw_below_drewN | apply below_drew1 | refine below_set ?_ GE157.out) | exact HB.out)⟩

-- NOT PRINTED: function 18 (audit_Add)

-- NOT PRINTED: function 33 (audit_chain)

-- NOT PRINTED: function 20 (audit_Digest)

end Go.Proofs.Ytmifoihfpjomaaa.F

-- F29
namespace Go.Proofs.Ytmifoihfpjomaaa.F
open Go.RowKit Go.Proofs.YtmifoihfpjomaaaW.PrintWords Go.Proofs.YtmifoihfpjomaaaW.PrintLast Go.Proofs.YtmifoihfpjomaaaW.PrintMore
attribute [local go_sem] max2_int min2_int max_two min_two max_three min_three max_four min_four   -- for this text's walks alone
set_option linter.unusedVariables false
set_option linter.unusedSimpArgs false

/-! ### audit_Encode: function 29 -/
def audit_Encode.l0 : Nat → List Int → List (S36) → Int → Int → Option (List Int × Int)
  | 0, _, _, _, _ => none
  | k + 1, x4, x23, x24, x25 => if x25 < x24 then (if 0 ≤ x25 then (if x25 < (x23.length : Int) then ((audit_bytes.f k ((rd_T36 x23 x25).f0) ((rd_T36 x23 x25).f1) ((rd_T36 x23 x25).f2) ((rd_T36 x23 x25).f3) ((rd_T36 x23 x25).f4)).bind fun t354 => (if x4.length + t354.size < 140737488355328 then (audit_Encode.l0 k (x4 ++ bytesOf t354) x23 x24 (wrap64 (x25 + 1))) else (none))) else (none)) else (none)) else (some (x4, 0))
def audit_Encode.f (k : Nat) (a0_0 : ByteArray) (a0_1 : Int) (l0_2 : List (S36)) : Option (List Int × Int) := (audit_May.f k a0_0 a0_1 l0_2).bind fun t342 => (if t342 = true then ((num_PutText.f k ([] : List Int) a0_0).bind fun t343 => ((num_Put.f k t343 (IntKind.u64.wrap (a0_1))).bind fun t346 => ((num_Put.f k t346 (IntKind.u64.wrap ((l0_2.length : Int)))).bind fun t349 => (audit_Encode.l0 k t349 l0_2 (l0_2.length : Int) 0)))) else (some (([] : List Int), 1)))
def audit_Encode.T3 : Bool × List (List Nat × List Nat) := (true, [([], []), ([0], [0]), ([1], [1]), ([], []), ([3], [3]), ([4], [4]), ([2, 5, 2], [2, 5]), ([], []), ([7], [7]), ([8], [8]), ([9], [9]), ([6, 10, 6], [6, 10]), ([11, 11, 0, 1, 2, 3, 4, 5, 6, 7, 8, 9, 10, 11], [11])])
def audit_Encode.B3 : List Nat := [0, 1, 3, 0, 8, 24, 63, 0, 128, 384, 896, 2047, 4095]
theorem audit_Encode.tab3 : rtab .any (opsOf Try.f29 3) = audit_Encode.T3 := by kernel_rfl
theorem audit_Encode.bits3 : waitsOk audit_Encode.T3.2 audit_Encode.B3 = true := by kernel_rfl
set_option maxHeartbeats 8000000 in
set_option maxRecDepth 100000 in
theorem audit_Encode.calls (k : Nat) (a0_0 : ByteArray) (a0_1 : Int) (A0_2 : Option Addr) (c0_2 : Nat) (l0_2 : List (S36)) (r1 : List Int) (r2 : Int) (w : World) (hr0_2 : Kd.C k36 w A0_2 l0_2.length l0_2) (hc0_2 : l0_2.length ≤ c0_2) (h : audit_Encode.f k a0_0 a0_1 l0_2 = some (r1, r2)) :
    Calls Try.prog 29 #[.agg #[.string a0_0, .int .i64 a0_1, .slice A0_2 l0_2.length c0_2]] w fun e w' => ∃ v0_ : Value, e = .returned (.tuple #[v0_, .int .i64 r2]) ∧ Kd.R (Kd.int .u8) 5 w' w.heap.size (fun _ => True) v0_ r1 ∧ Below w.heap.size w w' := by
  have hu27 := Try.underlying27
  have hu36 := Try.underlying36
  have HR0_2 := Aside0.mk hr0_2
  have HC0_2 := Aside0.mk hc0_2
  clear hr0_2 hc0_2
  have HB := Aside0.mk (Below.refl w.heap.size w)
  have H : ((audit_May.f k a0_0 a0_1 l0_2).bind fun t342 => (if t342 = true then ((num_PutText.f k ([] : List Int) a0_0).bind fun t343 => ((num_Put.f k t343 (IntKind.u64.wrap (a0_1))).bind fun t346 => ((num_Put.f k t346 (IntKind.u64.wrap ((l0_2.length : Int)))).bind fun t349 => (audit_Encode.l0 k t349 l0_2 (l0_2.length : Int) 0)))) else (some (([] : List Int), 1)))) = some (r1, r2) := h
  clear h
  replace H := Option.bind_eq_some_iff.mp H
  obtain ⟨t342, A20, H⟩ := H
  replace H : (if t342 = true then ((num_PutText.f k ([] : List Int) a0_0).bind fun t343 => ((num_Put.f k t343 (IntKind.u64.wrap (a0_1))).bind fun t346 => ((num_Put.f k t346 (IntKind.u64.wrap ((l0_2.length : Int)))).bind fun t349 => (audit_Encode.l0 k t349 l0_2 (l0_2.length : Int) 0)))) else (some (([] : List Int), 1))) = some (r1, r2) := H
  have A2 := Aside0.mk A20
  clear A20
  by_cases c3 : t342 = true
  · subst c3
    have H1 : ((num_PutText.f k ([] : List Int) a0_0).bind fun t343 => ((num_Put.f k t343 (IntKind.u64.wrap (a0_1))).bind fun t346 => ((num_Put.f k t346 (IntKind.u64.wrap ((l0_2.length : Int)))).bind fun t349 => (audit_Encode.l0 k t349 l0_2 (l0_2.length : Int) 0)))) = some (r1, r2) := by rw [if_pos rfl] at H; exact H
    clear H
    have H := H1
    clear H1
    replace H := Option.bind_eq_some_iff.mp H
    obtain ⟨t343, A40, H⟩ := H
    replace H : ((num_Put.f k t343 (IntKind.u64.wrap (a0_1))).bind fun t346 => ((num_Put.f k t346 (IntKind.u64.wrap ((l0_2.length : Int)))).bind fun t349 => (audit_Encode.l0 k t349 l0_2 (l0_2.length : Int) 0))) = some (r1, r2) := H
    have A4 := Aside0.mk A40
    clear A40
    replace H := Option.bind_eq_some_iff.mp H
    obtain ⟨t346, A50, H⟩ := H
    replace H : ((num_Put.f k t346 (IntKind.u64.wrap ((l0_2.length : Int)))).bind fun t349 => (audit_Encode.l0 k t349 l0_2 (l0_2.length : Int) 0)) = some (r1, r2) := H
    have A5 := Aside0.mk A50
    clear A50
    replace H := Option.bind_eq_some_iff.mp H
    obtain ⟨t349, A60, H⟩ := H
    replace H : (audit_Encode.l0 k t349 l0_2 (l0_2.length : Int) 0) = some (r1, r2) := H
    have A6 := Aside0.mk A60
    clear A60
    have H' := Aside0.mk H
    clear H
    go_enter Try.func29, Try.ntmps29
    try go_wp2_with (first | ((with_reducible refine gate_dst (N := 1) rfl ?_); refine box_event ?hg (N := 1) ?hd (cs := #[.string a0_0, .int .i64 a0_1, .slice A0_2 l0_2.length c0_2]) (t := 27) ?hr ?_; (case hd => rfl); (case hg => rfl); (case hr => first | (go_simp; done) | (go_simp; rfl)); intro gb341 hg w7 hbox hb; have n0_ := Aside0.mk (below_step (by repeat (first | (with_reducible first | exact HB.out | apply below_alloc | apply pw_below_drewN | apply below_drew1) | exact HB.out)) hb); have n1_ := Aside0.mk (hbox); have n2_ := Aside0.mk ((by rw [hg]; exact (below_size (by repeat (first | (with_reducible first | exact HB.out | apply below_alloc | apply pw_below_drewN | apply below_drew1) | exact HB.out))) : w.heap.size ≤ gb341)); have n3_ := Aside0.mk ((by rw [hg]; exact (below_size (by repeat (first | (with_reducible first | exact HB.out | apply below_alloc | apply pw_below_drewN | apply below_drew1) | exact HB.out))) : w.heap.size ≤ gb341)); clear HB; have HB := n0_; have BK341 := n1_; have GW341 := n2_; have GE341 := n3_; clear n0_ n1_ n2_ n3_; clear hb hbox hg; have hcz8_0 : w7.cell? ⟨gb341, 0, none⟩ = some (.string a0_0) := (blk_cell BK341.out 0).trans rfl; have hcz8_1 : w7.cell? ⟨gb341, 1, none⟩ = some (.int .i64 a0_1) := (blk_cell BK341.out 1).trans rfl; have hcz8_2 : w7.cell? ⟨gb341, 2, none⟩ = some (.slice A0_2 l0_2.length c0_2) := (blk_cell BK341.out 2).trans rfl; have hfz8_0 := blk_frozen BK341.out 0; have hfz8_1 := blk_frozen BK341.out 1; have hfz8_2 := blk_frozen BK341.out 2) | ((with_reducible refine gate_callee (f := 15) rfl ?_); refine goesL_ (some 8) rfl rfl Try.func15 (by kernel_rfl) rfl #[.agg #[.string a0_0, .int .i64 a0_1, .slice A0_2 l0_2.length c0_2]] rfl (by (try simp only [List.map_toArray, List.map_cons, List.map_nil]); first | done | rfl | (simp only [List.length_drop, List.length_take]; rfl)) ?_; (with_reducible refine (audit_May.calls k a0_0 a0_1 _ _ l0_2 true _ ?side1 ?side2 A2.out).mono ?_); (case side1 => repeat (first | exact (Kd.C_below HR0_2.out HB.out) | (with_reducible refine Kd.C_alloc ?_ _) | (with_reducible refine Kd.C_drewN ?_ _) | (with_reducible refine Kd.C_drew ?_))); (case side2 => exact HC0_2.out); rintro e w9 ⟨rfl, hb⟩; refine ⟨_, rfl, ?_⟩; have n0_ := Aside0.mk (blk_below (g := gb341) (o := .cells #[.string a0_0, .int .i64 a0_1, .slice A0_2 l0_2.length c0_2] 27 (0, 0)) (by (with_reducible repeat (first | refine blk_drewN ?_ _ | refine blk_drew ?_ | refine blk_alloc ?_ _)); exact BK341.out) hb); have n1_ := Aside0.mk (below_step (by repeat (first | (with_reducible first | exact HB.out | apply below_alloc | apply pw_below_drewN | apply below_drew1 | refine below_set ?_ GE341.out) | exact HB.out)) hb); clear BK341; clear HB; have BK341 := n0_; have HB := n1_; clear n0_ n1_; (try clear hb); (try clear hb2); (try clear hk); (try clear hi)))
    have n0_ := Aside0.mk (blk_drew BK341.out)
    have n1_ := Aside0.mk (below_drew1 HB.out)
    clear BK341
    clear HB
    have BK341 := n0_
    have HB := n1_
    clear n0_ n1_
    refine start_ (n := 13) (S := fun w' => w'.cell? ⟨gb341, 0, none⟩ = some (.string a0_0) ∧ w'.cell? ⟨gb341, 1, none⟩ = some (.int .i64 a0_1) ∧ w'.cell? ⟨gb341, 2, none⟩ = some (.slice A0_2 l0_2.length c0_2)) (ds := []) #[false, false, false, false, false, false, false, false, false, false, false, false, false] (by kernel_rfl) rfl rfl ⟨(blk_cell BK341.out 0).trans rfl, (blk_cell BK341.out 1).trans rfl, (blk_cell BK341.out 2).trans rfl⟩ (fun hHeld => ?_); refine with_tabW audit_Encode.tab3 audit_Encode.bits3 (fun HT_ HW_ => ?_)
    generalize w9.drew = w10 at BK341 HB hHeld ⊢
    refine pure_ (i := 0) (N := some 10) (v := ?_) (a' := ?_) #[true, false, false, false, false, false, false, false, false, false, false, false, false] rfl rfl (any_of HT_.out (by kernel_rfl)) (fun _ _ _ h => h) (Or.inl ⟨by rfl, ?_⟩) ?_ ?_
    rotate_left
    · intro w'
      go_simp
      with_reducible rfl
    rotate_left
    · simp only [Act.put, List.setIfInBounds_toArray, List.set_cons_zero, List.set_cons_succ, i64_w, i32_w]
      rfl
    refine pure_ (i := 3) (N := some 13) (v := ?_) (a' := ?_) #[true, false, false, true, false, false, false, false, false, false, false, false, false] rfl rfl (any_of HT_.out (by kernel_rfl)) (fun _ _ _ h => h) (Or.inl ⟨by rfl, ?_⟩) ?_ ?_
    rotate_left
    · intro w'
      go_simp
      with_reducible rfl
    rotate_left
    · simp only [Act.put, List.setIfInBounds_toArray, List.set_cons_zero, List.set_cons_succ, i64_w, i32_w]
      rfl
    refine pure_ (i := 7) (N := some 17) (v := ?_) (a' := ?_) #[true, false, false, true, false, false, false, true, false, false, false, false, false] rfl rfl (any_of HT_.out (by kernel_rfl)) (fun _ _ _ h => h) (Or.inl ⟨by rfl, ?_⟩) ?_ ?_
    rotate_left
    · intro w'
      go_simp
      with_reducible rfl
    rotate_left
    · simp only [Act.put, List.setIfInBounds_toArray, List.set_cons_zero, List.set_cons_succ, i64_w, i32_w]
      rfl
    refine take_ (i := 1) (N := some 11) (v := ?_) (a' := ?_) #[true, true, false, true, false, false, false, true, false, false, false, false, false] rfl rfl (take_ofW HT_.out HW_.out (by kernel_rfl)) (fun _ _ _ h => h) (Or.inl ⟨by rfl, ?_⟩) hHeld ?_ ?_
    rotate_left
    · rintro w' ⟨s0, s1, s2⟩
      go_simp
      with_reducible rfl
    rotate_left
    · simp only [Act.put, List.setIfInBounds_toArray, List.set_cons_zero, List.set_cons_succ, i64_w, i32_w]
      rfl
    refine take_ (i := 4) (N := some 14) (v := ?_) (a' := ?_) #[true, true, false, true, true, false, false, true, false, false, false, false, false] rfl rfl (take_ofW HT_.out HW_.out (by kernel_rfl)) (fun _ _ _ h => h) (Or.inl ⟨by rfl, ?_⟩) hHeld ?_ ?_
    rotate_left
    · rintro w' ⟨s0, s1, s2⟩
      go_simp
      with_reducible rfl
    rotate_left
    · simp only [Act.put, List.setIfInBounds_toArray, List.set_cons_zero, List.set_cons_succ, i64_w, i32_w]
      rfl
    refine pure_ (i := 5) (N := some 15) (v := ?_) (a' := ?_) #[true, true, false, true, true, true, false, true, false, false, false, false, false] rfl rfl (any_of HT_.out (by kernel_rfl)) (fun _ _ _ h => h) (Or.inl ⟨by rfl, ?_⟩) ?_ ?_
    rotate_left
    · intro w'
      go_simp
      with_reducible rfl
    rotate_left
    · simp only [Act.put, List.setIfInBounds_toArray, List.set_cons_zero, List.set_cons_succ, i64_w, i32_w]
      rfl
    refine take_ (i := 8) (N := some 18) (v := ?_) (a' := ?_) #[true, true, false, true, true, true, false, true, true, false, false, false, false] rfl rfl (take_ofW HT_.out HW_.out (by kernel_rfl)) (fun _ _ _ h => h) (Or.inl ⟨by rfl, ?_⟩) hHeld ?_ ?_
    rotate_left
    · rintro w' ⟨s0, s1, s2⟩
      go_simp
      with_reducible rfl
    rotate_left
    · simp only [Act.put, List.setIfInBounds_toArray, List.set_cons_zero, List.set_cons_succ, i64_w, i32_w]
      rfl
    refine pure_ (i := 9) (N := some 19) (v := ?_) (a' := ?_) #[true, true, false, true, true, true, false, true, true, true, false, false, false] rfl rfl (any_of HT_.out (by kernel_rfl)) (fun _ _ _ h => h) (Or.inl ⟨by rfl, ?_⟩) ?_ ?_
    rotate_left
    · intro w'
      go_simp
      with_reducible rfl
    rotate_left
    · simp only [Act.put, List.setIfInBounds_toArray, List.set_cons_zero, List.set_cons_succ, i64_w, i32_w]
      rfl
    refine pure_ (i := 10) (N := some 20) (v := ?_) (a' := ?_) #[true, true, false, true, true, true, false, true, true, true, true, false, false] rfl rfl (any_of HT_.out (by kernel_rfl)) (fun _ _ _ h => h) (Or.inl ⟨by rfl, ?_⟩) ?_ ?_
    rotate_left
    · intro w'
      go_simp
      with_reducible rfl
    rotate_left
    · simp only [Act.put, List.setIfInBounds_toArray, List.set_cons_zero, List.set_cons_succ, i64_w, i32_w]
      rfl
    refine one_ (i := 2) (N := some 12) #[true, true, true, true, true, true, false, true, true, true, true, false, false] rfl rfl (one_of HT_.out (by kernel_rfl)) (by decide) (fun K hK => ?_)
    refine goes_ Try.func47 (by kernel_rfl) rfl #[.slice none 0 0, .string a0_0] (by rfl) rfl rfl (by (try simp only [List.map_toArray, List.map_cons, List.map_nil]); first | done | rfl | (simp only [List.length_drop, List.length_take]; rfl)) ?_
    refine (num_PutText.calls k _ _ ([] : List Int) a0_0 t343 _ ?side1 ?side2 A4.out).mono ?_
    (case side1 => exact Kd.C_nil _ _)
    (case side2 => exact Nat.le_refl _)
    rintro e w11 ⟨v344, rfl, ho0, hb⟩
    refine ⟨_, rfl, ?_⟩
    have n0_ := Aside0.mk (Kd.R_lower ho0 (below_size (by repeat (first | (with_reducible first | exact HB.out | apply below_alloc | apply pw_below_drewN | apply below_drew1 | refine below_set ?_ GE341.out) | exact HB.out))))
    have n1_ := Aside0.mk (blk_below (g := gb341) (o := .cells #[.string a0_0, .int .i64 a0_1, .slice A0_2 l0_2.length c0_2] 27 (0, 0)) (by (with_reducible repeat (first | refine blk_drewN ?_ _ | refine blk_drew ?_ | refine blk_alloc ?_ _)); exact BK341.out) hb)
    have n2_ := Aside0.mk (below_step (by repeat (first | (with_reducible first | exact HB.out | apply below_alloc | apply pw_below_drewN | apply below_drew1 | refine below_set ?_ GE341.out) | exact HB.out)) hb)
    clear BK341
    clear HB
    have HO345 := n0_
    have BK341 := n1_
    have HB := n2_
    clear n0_ n1_ n2_
    (try clear hb)
    (try clear hb2)
    (try clear hk)
    (try clear hi)
    (try clear ho0)
    obtain ⟨Ao12, co12, eo12⟩ := Kd.R_slice HO345.out
    (first | subst eo12 | (injection eo12 with f1_ f2_ f3_; have f4_ := f1_.symm; have f5_ := f3_.symm; clear f1_ f2_ f3_; subst f4_; subst f5_))
    refine hK.out _ _ ⟨(blk_cell BK341.out 0).trans rfl, (blk_cell BK341.out 1).trans rfl, (blk_cell BK341.out 2).trans rfl⟩ (fun hHeld => ?_)
    clear hK K
    refine norm_ (a' := ?_) ?_ ?_
    rotate_left
    · show Act.put _ (some 12) _ = _
      simp only [Act.put, List.setIfInBounds_toArray, List.set_cons_zero, List.set_cons_succ, i64_w, i32_w]
      rfl
    refine one_ (i := 6) (N := some 16) #[true, true, true, true, true, true, true, true, true, true, true, false, false] rfl rfl (one_of HT_.out (by kernel_rfl)) (by decide) (fun K hK => ?_)
    refine goes_ Try.func46 (by kernel_rfl) rfl #[.slice Ao12 t343.length co12, .int .u64 (IntKind.u64.wrap (a0_1))] (by rfl) rfl rfl (by (try simp only [List.map_toArray, List.map_cons, List.map_nil]); first | done | rfl | (simp only [List.length_drop, List.length_take]; rfl)) ?_
    with_reducible refine (num_Put.calls k _ _ t343 (IntKind.u64.wrap (a0_1)) t346 _ ?side1 ?side2 A5.out).mono ?_
    (case side1 => repeat (first | exact (Kd.R_reads' HO345.out).2.2 | (with_reducible refine Kd.C_alloc ?_ _) | (with_reducible refine Kd.C_drewN ?_ _) | (with_reducible refine Kd.C_drew ?_)))
    (case side2 => exact (Kd.R_reads' HO345.out).2.1)
    rintro e w13 ⟨v347, rfl, ho0, hb⟩
    refine ⟨_, rfl, ?_⟩
    have n0_ := Aside0.mk (Kd.R_elder' (by (with_reducible repeat (first | apply Kd.R_alloc | apply Kd.R_drewN | apply Kd.R_drew)); exact HO345.out) (Kd.R_base ho0) hb)
    have n1_ := Aside0.mk (Kd.R_lower (Kd.R_new' ho0 (Kd.R_lt (by (with_reducible repeat (first | apply Kd.R_alloc | apply Kd.R_drewN | apply Kd.R_drew)); exact HO345.out))) (below_size (by repeat (first | (with_reducible first | exact HB.out | apply below_alloc | apply pw_below_drewN | apply below_drew1 | refine below_set ?_ GE341.out) | exact HB.out))))
    have n2_ := Aside0.mk (blk_below (g := gb341) (o := .cells #[.string a0_0, .int .i64 a0_1, .slice A0_2 l0_2.length c0_2] 27 (0, 0)) (by (with_reducible repeat (first | refine blk_drewN ?_ _ | refine blk_drew ?_ | refine blk_alloc ?_ _)); exact BK341.out) hb)
    have n3_ := Aside0.mk (below_step (by repeat (first | (with_reducible first | exact HB.out | apply below_alloc | apply pw_below_drewN | apply below_drew1 | refine below_set ?_ GE341.out) | exact HB.out)) hb)
    clear HO345
    clear BK341
    clear HB
    have HO345 := n0_
    have HO348 := n1_
    have BK341 := n2_
    have HB := n3_
    clear n0_ n1_ n2_ n3_
    (try clear hb)
    (try clear hb2)
    (try clear hk)
    (try clear hi)
    (try clear ho0)
    obtain ⟨Ao14, co14, eo14⟩ := Kd.R_slice HO348.out
    (first | subst eo14 | (injection eo14 with f1_ f2_ f3_; have f4_ := f1_.symm; have f5_ := f3_.symm; clear f1_ f2_ f3_; subst f4_; subst f5_))
    refine hK.out _ _ ⟨(blk_cell BK341.out 0).trans rfl, (blk_cell BK341.out 1).trans rfl, (blk_cell BK341.out 2).trans rfl⟩ (fun hHeld => ?_)
    clear hK K
    refine norm_ (a' := ?_) ?_ ?_
    rotate_left
    · show Act.put _ (some 16) _ = _
      simp only [Act.put, List.setIfInBounds_toArray, List.set_cons_zero, List.set_cons_succ, i64_w, i32_w]
      rfl
    refine one_ (i := 11) (N := some 21) #[true, true, true, true, true, true, true, true, true, true, true, true, false] rfl rfl (one_of HT_.out (by kernel_rfl)) (by decide) (fun K hK => ?_)
    refine goes_ Try.func46 (by kernel_rfl) rfl #[.slice Ao14 t346.length co14, .int .u64 (IntKind.u64.wrap ((l0_2.length : Int)))] (by rfl) rfl rfl (by (try simp only [List.map_toArray, List.map_cons, List.map_nil]); first | done | rfl | (simp only [List.length_drop, List.length_take]; rfl)) ?_
    with_reducible refine (num_Put.calls k _ _ t346 (IntKind.u64.wrap ((l0_2.length : Int))) t349 _ ?side1 ?side2 A6.out).mono ?_
    (case side1 => repeat (first | exact (Kd.R_reads' HO348.out).2.2 | (with_reducible refine Kd.C_alloc ?_ _) | (with_reducible refine Kd.C_drewN ?_ _) | (with_reducible refine Kd.C_drew ?_)))
    (case side2 => exact (Kd.R_reads' HO348.out).2.1)
    rintro e w15 ⟨v350, rfl, ho0, hb⟩
    refine ⟨_, rfl, ?_⟩
    have n0_ := Aside0.mk (Kd.R_elder' (by (with_reducible repeat (first | apply Kd.R_alloc | apply Kd.R_drewN | apply Kd.R_drew)); exact HO345.out) (Kd.R_base ho0) hb)
    have n1_ := Aside0.mk (Kd.R_elder' (by (with_reducible repeat (first | apply Kd.R_alloc | apply Kd.R_drewN | apply Kd.R_drew)); exact HO348.out) (Kd.R_base ho0) hb)
    have n2_ := Aside0.mk (Kd.R_lower (Kd.R_new' (Kd.R_new' ho0 (Kd.R_lt (by (with_reducible repeat (first | apply Kd.R_alloc | apply Kd.R_drewN | apply Kd.R_drew)); exact HO345.out))) (Kd.R_lt (by (with_reducible repeat (first | apply Kd.R_alloc | apply Kd.R_drewN | apply Kd.R_drew)); exact HO348.out))) (below_size (by repeat (first | (with_reducible first | exact HB.out | apply below_alloc | apply pw_below_drewN | apply below_drew1 | refine below_set ?_ GE341.out) | exact HB.out))))
    have n3_ := Aside0.mk (blk_below (g := gb341) (o := .cells #[.string a0_0, .int .i64 a0_1, .slice A0_2 l0_2.length c0_2] 27 (0, 0)) (by (with_reducible repeat (first | refine blk_drewN ?_ _ | refine blk_drew ?_ | refine blk_alloc ?_ _)); exact BK341.out) hb)
    have n4_ := Aside0.mk (below_step (by repeat (first | (with_reducible first | exact HB.out | apply below_alloc | apply pw_below_drewN | apply below_drew1 | refine below_set ?_ GE341.out) | exact HB.out)) hb)
    clear HO345
    clear HO348
    clear BK341
    clear HB
    have HO345 := n0_
    have HO348 := n1_
    have HO351 := n2_
    have BK341 := n3_
    have HB := n4_
    clear n0_ n1_ n2_ n3_ n4_
    (try clear hb)
    (try clear hb2)
    (try clear hk)
    (try clear hi)
    (try clear ho0)
    refine hK.out _ _ ⟨(blk_cell BK341.out 0).trans rfl, (blk_cell BK341.out 1).trans rfl, (blk_cell BK341.out 2).trans rfl⟩ (fun hHeld => ?_)
    clear hK K
    refine norm_ (a' := ?_) ?_ ?_
    rotate_left
    · show Act.put _ (some 21) _ = _
      simp only [Act.put, List.setIfInBounds_toArray, List.set_cons_zero, List.set_cons_succ, i64_w, i32_w]
      rfl
    refine pure_ (i := 12) (N := some 4) (v := ?_) (a' := ?_) #[true, true, true, true, true, true, true, true, true, true, true, true, true] rfl rfl (any_of HT_.out (by kernel_rfl)) (fun _ _ _ h => h) (Or.inl ⟨by rfl, ?_⟩) ?_ ?_
    rotate_left
    · intro w'
      go_simp
      with_reducible rfl
    rotate_left
    · simp only [Act.put, List.setIfInBounds_toArray, List.set_cons_zero, List.set_cons_succ, i64_w, i32_w]
      rfl
    refine done_ (done_of HT_.out (by kernel_rfl)) ?_
    have hcz16_0 : w15.cell? ⟨gb341, 0, none⟩ = some (.string a0_0) := (blk_cell BK341.out 0).trans rfl
    have hcz16_1 : w15.cell? ⟨gb341, 1, none⟩ = some (.int .i64 a0_1) := (blk_cell BK341.out 1).trans rfl
    have hcz16_2 : w15.cell? ⟨gb341, 2, none⟩ = some (.slice A0_2 l0_2.length c0_2) := (blk_cell BK341.out 2).trans rfl
    have hfz16_0 := blk_frozen BK341.out 0
    have hfz16_1 := blk_frozen BK341.out 1
    have hfz16_2 := blk_frozen BK341.out 2
    try go_wp2
    go_loopg [4, 25] k (fun kq v4 v25 w' => ∃ (x4_1 : List Int) (x25_1 : Int), v25 = .int .i64 x25_1 ∧ Aside0 (audit_Encode.l0 kq x4_1 l0_2 (l0_2.length : Int) x25_1 = some (r1, r2)) ∧ Aside0 (kq ≤ k) ∧ Aside0 (Kd.R (Kd.int .u8) 5 w' w.heap.size (fun _ => True) v4 x4_1) ∧ Aside0 (w'.heap[gb341]? = some (.cells #[.string a0_0, .int .i64 a0_1, (.slice A0_2 l0_2.length c0_2)] 27 (0, 0))) ∧ Aside0 (Below w.heap.size w w'))
    case atStart => exact ⟨(t349), (0), (by first | rfl | (simp; done) | (simp [*]; done)), H', ⟨Nat.le_refl _⟩, ⟨by (with_reducible repeat (first | apply Kd.R_alloc | apply Kd.R_drewN | apply Kd.R_drew)); exact Kd.R_mono HO351.out (fun _ hk => trivial)⟩, ⟨by (with_reducible repeat (first | refine blk_drewN ?_ _ | refine blk_drew ?_ | refine blk_alloc ?_ _)); exact BK341.out⟩, ⟨by repeat (first | (with_reducible first | exact HB.out | apply below_alloc | apply pw_below_drewN | apply below_drew1 | refine below_set ?_ GE341.out) | exact HB.out)⟩⟩
    case round =>
      clear H'
      try clear c1
      try clear c2
      try clear p2
      try clear c3
      try clear c4
      try clear c15
      try clear hcz16_0
      try clear hcz16_1
      try clear hcz16_2
      try clear hcz8_0
      try clear hcz8_1
      try clear hcz8_2
      try clear hfz16_0
      try clear hfz16_1
      try clear hfz16_2
      try clear hfz8_0
      try clear hfz8_1
      try clear hfz8_2
      obtain ⟨x4_1, x25_1, rfl, HA, HK1, HO_4, BK341, HB⟩ := hrel
      cases gk with
      | zero => exact absurd HA.out (by simp [audit_Encode.l0])
      | succ k1 =>
        have H := HA.out
        clear HA
        simp only [audit_Encode.l0] at H
        by_cases c17 : x25_1 < (l0_2.length : Int)
        · rw [if_pos c17] at H
          have c17b0 : decide (x25_1 < (l0_2.length : Int)) = true := decide_eq_true c17
          clear c17
          by_cases c18 : 0 ≤ x25_1
          · rw [if_pos c18] at H
            have c18b0 : decide (0 ≤ x25_1) = true := decide_eq_true c18
            clear c18
            by_cases c19 : x25_1 < (l0_2.length : Int)
            · rw [if_pos c19] at H
              have c19b0 : decide (x25_1 < (l0_2.length : Int)) = true := decide_eq_true c19
              clear c19
              replace H := Option.bind_eq_some_iff.mp H
              obtain ⟨t354, A200, H⟩ := H
              replace H : (if x4_1.length + t354.size < 140737488355328 then (audit_Encode.l0 k1 (x4_1 ++ bytesOf t354) l0_2 (l0_2.length : Int) (wrap64 (x25_1 + 1))) else (none)) = some (r1, r2) := H
              have A20 := Aside0.mk A200
              clear A200
              by_cases c21 : x4_1.length + t354.size < 140737488355328
              · rw [if_pos c21] at H
                have LMc21 := Aside0.mk c21
                clear c21
                obtain ⟨y355, hy355⟩ : ∃ y_ : List Int, y_ = (x4_1 ++ bytesOf t354) := ⟨_, rfl⟩
                replace H : (audit_Encode.l0 k1 y355 l0_2 (l0_2.length : Int) (wrap64 (x25_1 + 1))) = some (r1, r2) := by first | (rw [hy355]; with_reducible exact H) | (have H2_ := (Option.bind_some _ _).symm.trans H; rw [hy355]; with_reducible exact H2_) | (have H2_ := (Option.bind_some _ _).symm.trans H; with_reducible exact H2_) | with_reducible exact H | (rw [hy355]; exact H) | exact H
                have Ny355 := Aside0.mk hy355
                clear hy355
                have H' := Aside0.mk H
                clear H
                have p352 : 0 ≤ (x25_1 : Int) := of_decide_eq_true (by first | (with_reducible assumption) | assumption)
                have q352 : x25_1 < (l0_2.length : Int) := of_decide_eq_true (by first | (with_reducible assumption) | assumption)
                obtain ⟨ad352, e352, hx352_0, hx352_1, hx352_2, hx352_3, hx352_4⟩ := at_T36 HR0_2.out x25_1 p352 q352
                cases e352
                replace hx352_0 := (HB.out.cell (World.block_lt_of_cell? w _ hx352_0)).trans hx352_0
                replace hx352_1 := (HB.out.cell (World.block_lt_of_cell? w _ hx352_1)).trans hx352_1
                replace hx352_2 := (HB.out.cell (World.block_lt_of_cell? w _ hx352_2)).trans hx352_2
                replace hx352_3 := (HB.out.cell (World.block_lt_of_cell? w _ hx352_3)).trans hx352_3
                replace hx352_4 := (HB.out.cell (World.block_lt_of_cell? w _ hx352_4)).trans hx352_4
                replace p352 := eq_true p352
                replace q352 := eq_true q352
                go_wp2_with (first | ((with_reducible refine gate_dst (N := 6) rfl ?_); refine box_event ?hg (N := 6) ?hd (cs := #[.int .i64 0, .int .i64 0, .int .i64 0, .string (⟨#[]⟩ : ByteArray), .int .i64 0]) (t := 36) ?hr ?_; (case hd => rfl); (case hg => rfl); (case hr => first | (go_simp; done) | (go_simp; rfl)); intro gb353 hg w22 hbox hb; have n0_ := Aside0.mk (Kd.R_below (by (with_reducible repeat (first | apply Kd.R_alloc | apply Kd.R_drewN | apply Kd.R_drew)); exact HO_4.out) hb); have n1_ := Aside0.mk (blk_below (g := gb341) (o := .cells #[.string a0_0, .int .i64 a0_1, .slice (some ad352) l0_2.length c0_2] 27 (0, 0)) (by (with_reducible repeat (first | refine blk_drewN ?_ _ | refine blk_drew ?_ | refine blk_alloc ?_ _)); exact BK341.out) hb); have n2_ := Aside0.mk (below_step (by repeat (first | (with_reducible first | exact HB.out | apply below_alloc | apply pw_below_drewN | apply below_drew1 | refine below_set ?_ GE341.out) | exact HB.out)) hb); have n3_ := Aside0.mk (hbox); have n4_ := Aside0.mk ((by rw [hg]; exact (below_size (by repeat (first | (with_reducible first | exact HB.out | apply below_alloc | apply pw_below_drewN | apply below_drew1 | refine below_set ?_ GE341.out) | exact HB.out))) : w.heap.size ≤ gb353)); have n5_ := Aside0.mk ((by rw [hg]; exact (below_size (by repeat (first | (with_reducible first | exact HB.out | apply below_alloc | apply pw_below_drewN | apply below_drew1 | refine below_set ?_ GE341.out) | exact HB.out))) : w.heap.size ≤ gb353)); have n6_ := Aside0.mk ((by rw [hg]; exact Nat.ne_of_lt (blk_lt (g := gb341) (o := .cells #[.string a0_0, .int .i64 a0_1, .slice (some ad352) l0_2.length c0_2] 27 (0, 0)) (by (with_reducible repeat (first | refine blk_drewN ?_ _ | refine blk_drew ?_ | refine blk_alloc ?_ _)); exact BK341.out)) : gb341 ≠ gb353)); have n7_ := Aside0.mk ((by rw [hg]; exact Nat.ne_of_gt (blk_lt (g := gb341) (o := .cells #[.string a0_0, .int .i64 a0_1, .slice (some ad352) l0_2.length c0_2] 27 (0, 0)) (by (with_reducible repeat (first | refine blk_drewN ?_ _ | refine blk_drew ?_ | refine blk_alloc ?_ _)); exact BK341.out)) : gb353 ≠ gb341)); clear HO_4; clear BK341; clear HB; have HO_4 := n0_; have BK341 := n1_; have HB := n2_; have BK353 := n3_; have GW353 := n4_; have GE353 := n5_; have NB341_353 := n6_; have NB353_341 := n7_; clear n0_ n1_ n2_ n3_ n4_ n5_ n6_ n7_; clear hb hbox hg; have hnb23 := NB353_341.out; have hnc23 := NB341_353.out; have hcz24_0 : w22.cell? ⟨gb353, 0, none⟩ = some (.int .i64 0) := (blk_cell BK353.out 0).trans rfl; have hcz24_1 : w22.cell? ⟨gb353, 1, none⟩ = some (.int .i64 0) := (blk_cell BK353.out 1).trans rfl; have hcz24_2 : w22.cell? ⟨gb353, 2, none⟩ = some (.int .i64 0) := (blk_cell BK353.out 2).trans rfl; have hcz24_3 : w22.cell? ⟨gb353, 3, none⟩ = some (.string (⟨#[]⟩ : ByteArray)) := (blk_cell BK353.out 3).trans rfl; have hcz24_4 : w22.cell? ⟨gb353, 4, none⟩ = some (.int .i64 0) := (blk_cell BK353.out 4).trans rfl; have hfz24_0 := blk_frozen BK353.out 0; have hfz24_1 := blk_frozen BK353.out 1; have hfz24_2 := blk_frozen BK353.out 2; have hfz24_3 := blk_frozen BK353.out 3; have hfz24_4 := blk_frozen BK353.out 4) | ((with_reducible refine gate_callee (f := 32) rfl ?_); refine goesL_ (some 31) rfl rfl Try.func32 (by kernel_rfl) rfl #[.agg #[.int .i64 ((rd_T36 l0_2 x25_1).f0), .int .i64 ((rd_T36 l0_2 x25_1).f1), .int .i64 ((rd_T36 l0_2 x25_1).f2), .string ((rd_T36 l0_2 x25_1).f3), .int .i64 ((rd_T36 l0_2 x25_1).f4)]] rfl (by (try simp only [List.map_toArray, List.map_cons, List.map_nil]); first | done | rfl | (simp only [List.length_drop, List.length_take]; rfl)) ?_; (with_reducible refine (audit_bytes.calls k1 ((rd_T36 l0_2 x25_1).f0) ((rd_T36 l0_2 x25_1).f1) ((rd_T36 l0_2 x25_1).f2) ((rd_T36 l0_2 x25_1).f3) ((rd_T36 l0_2 x25_1).f4) t354 _ A20.out).mono ?_); rintro e w25 ⟨rfl, hb⟩; refine ⟨_, rfl, ?_⟩; have n0_ := Aside0.mk (Kd.R_below (by (with_reducible repeat (first | apply Kd.R_alloc | apply Kd.R_drewN | apply Kd.R_drew)); exact (Kd.R_mono (Kd.R_far (p := ⟨gb353, 4, none⟩) (Kd.R_far (p := ⟨gb353, 3, none⟩) (Kd.R_far (p := ⟨gb353, 2, none⟩) (Kd.R_far (p := ⟨gb353, 1, none⟩) (Kd.R_far (p := ⟨gb353, 0, none⟩) (Kd.R_types HO_4.out BK353.out (by decide)) (fun _ hk => hk.2) (.int .i64 ((rd_T36 l0_2 x25_1).f0))) (fun _ hk => hk.2) (.int .i64 ((rd_T36 l0_2 x25_1).f1))) (fun _ hk => hk.2) (.int .i64 ((rd_T36 l0_2 x25_1).f2))) (fun _ hk => hk.2) (.string ((rd_T36 l0_2 x25_1).f3))) (fun _ hk => hk.2) (.int .i64 ((rd_T36 l0_2 x25_1).f4))) (fun _ h_ => h_.1))) hb); have n1_ := Aside0.mk (blk_below (g := gb341) (o := .cells #[.string a0_0, .int .i64 a0_1, .slice (some ad352) l0_2.length c0_2] 27 (0, 0)) (by (with_reducible repeat (first | refine blk_drewN ?_ _ | refine blk_drew ?_ | refine blk_alloc ?_ _)); refine blk_far ?_ NB341_353.out _; (with_reducible repeat (first | refine blk_drewN ?_ _ | refine blk_drew ?_ | refine blk_alloc ?_ _)); refine blk_far ?_ NB341_353.out _; (with_reducible repeat (first | refine blk_drewN ?_ _ | refine blk_drew ?_ | refine blk_alloc ?_ _)); refine blk_far ?_ NB341_353.out _; (with_reducible repeat (first | refine blk_drewN ?_ _ | refine blk_drew ?_ | refine blk_alloc ?_ _)); refine blk_far ?_ NB341_353.out _; (with_reducible repeat (first | refine blk_drewN ?_ _ | refine blk_drew ?_ | refine blk_alloc ?_ _)); refine blk_far ?_ NB341_353.out _; (with_reducible repeat (first | refine blk_drewN ?_ _ | refine blk_drew ?_ | refine blk_alloc ?_ _)); exact BK341.out) hb); have n2_ := Aside0.mk (blk_below (g := gb353) (o := .cells #[.int .i64 ((rd_T36 l0_2 x25_1).f0), .int .i64 ((rd_T36 l0_2 x25_1).f1), .int .i64 ((rd_T36 l0_2 x25_1).f2), .string ((rd_T36 l0_2 x25_1).f3), .int .i64 ((rd_T36 l0_2 x25_1).f4)] 36 (0, 0)) (by (with_reducible repeat (first | refine blk_drewN ?_ _ | refine blk_drew ?_ | refine blk_alloc ?_ _)); refine blk_put (cs := #[.int .i64 ((rd_T36 l0_2 x25_1).f0), .int .i64 ((rd_T36 l0_2 x25_1).f1), .int .i64 ((rd_T36 l0_2 x25_1).f2), .string ((rd_T36 l0_2 x25_1).f3), .int .i64 0]) ?_ 4 _ rfl; (with_reducible repeat (first | refine blk_drewN ?_ _ | refine blk_drew ?_ | refine blk_alloc ?_ _)); refine blk_put (cs := #[.int .i64 ((rd_T36 l0_2 x25_1).f0), .int .i64 ((rd_T36 l0_2 x25_1).f1), .int .i64 ((rd_T36 l0_2 x25_1).f2), .string (⟨#[]⟩ : ByteArray), .int .i64 0]) ?_ 3 _ rfl; (with_reducible repeat (first | refine blk_drewN ?_ _ | refine blk_drew ?_ | refine blk_alloc ?_ _)); refine blk_put (cs := #[.int .i64 ((rd_T36 l0_2 x25_1).f0), .int .i64 ((rd_T36 l0_2 x25_1).f1), .int .i64 0, .string (⟨#[]⟩ : ByteArray), .int .i64 0]) ?_ 2 _ rfl; (with_reducible repeat (first | refine blk_drewN ?_ _ | refine blk_drew ?_ | refine blk_alloc ?_ _)); refine blk_put (cs := #[.int .i64 ((rd_T36 l0_2 x25_1).f0), .int .i64 0, .int .i64 0, .string (⟨#[]⟩ : ByteArray), .int .i64 0]) ?_ 1 _ rfl; (with_reducible repeat (first | refine blk_drewN ?_ _ | refine blk_drew ?_ | refine blk_alloc ?_ _)); refine blk_put (cs := #[.int .i64 0, .int .i64 0, .int .i64 0, .string (⟨#[]⟩ : ByteArray), .int .i64 0]) ?_ 0 _ rfl; (with_reducible repeat (first | refine blk_drewN ?_ _ | refine blk_drew ?_ | refine blk_alloc ?_ _)); exact BK353.out) hb); have n3_ := Aside0.mk (below_step (by repeat (first | (with_reducible first | exact HB.out | apply below_alloc | apply pw_below_drewN | apply below_drew1 | refine below_set ?_ GE341.out | refine below_set ?_ GE353.out) | exact HB.out)) hb); clear HO_4; clear BK341; clear BK353; clear HB; have HO_4 := n0_; have BK341 := n1_; have BK353 := n2_; have HB := n3_; clear n0_ n1_ n2_ n3_; (try clear hb); (try clear hb2); (try clear hk); (try clear hi)) | (at_builtin; refine print_append_str (w0 := w) w.heap.size rfl (.tmp 29) _ 45 9 5 rfl Try.underlying45 Try.underlying9 info5 u4 x4_1 t354 rfl rfl ?aO ?aB ?aS ?aL ?_; (case aB => exact (by repeat (first | (with_reducible first | exact HB.out | apply below_alloc | apply pw_below_drewN | apply below_drew1 | refine below_set ?_ GE341.out | refine below_set ?_ GE353.out) | exact HB.out))); (case aO => exact (Kd.own_of_R (by (with_reducible repeat (first | apply Kd.R_alloc | apply Kd.R_drewN | apply Kd.R_drew)); exact HO_4.out))); (case aS => exact (below_size (by repeat (first | (with_reducible first | exact HB.out | apply below_alloc | apply pw_below_drewN | apply below_drew1 | refine below_set ?_ GE341.out | refine below_set ?_ GE353.out) | exact HB.out)))); (case aL => have := LMc21.out; omega); intro v356 w26 ho0 hb hg; have ho := Kd.R_of_own (h1 := fun _ => rfl) (ok := fun _ => True) ho0 (fun _ _ => trivial); clear ho0; have hat := True.intro; rw [← Ny355.out] at ho; change Kd.R (Kd.int .u8) 5 w26 w.heap.size (fun _ => True) v356 y355 at ho; have n0_ := Aside0.mk (blk_grown (g := gb341) (o := .cells #[.string a0_0, .int .i64 a0_1, .slice (some ad352) l0_2.length c0_2] 27 (0, 0)) (by (with_reducible repeat (first | refine blk_drewN ?_ _ | refine blk_drew ?_ | refine blk_alloc ?_ _)); exact BK341.out) hg (Kd.R_ne HO_4.out BK341.out (by decide))); have n1_ := Aside0.mk (blk_grown (g := gb353) (o := .cells #[.int .i64 ((rd_T36 l0_2 x25_1).f0), .int .i64 ((rd_T36 l0_2 x25_1).f1), .int .i64 ((rd_T36 l0_2 x25_1).f2), .string ((rd_T36 l0_2 x25_1).f3), .int .i64 ((rd_T36 l0_2 x25_1).f4)] 36 (0, 0)) (by (with_reducible repeat (first | refine blk_drewN ?_ _ | refine blk_drew ?_ | refine blk_alloc ?_ _)); exact BK353.out) hg (Kd.R_ne HO_4.out BK353.out (by decide))); have n2_ := Aside0.mk (hb); have n3_ := Aside0.mk (ho); clear BK341; clear BK353; clear HB; clear HO_4; have BK341 := n0_; have BK353 := n1_; have HB := n2_; have HO357 := n3_; clear n0_ n1_ n2_ n3_; clear ho hb hg hat))
                go_roundg k1
                case measure => have := HK1.out; omega
                case rel => exact ⟨(y355), (wrap64 (x25_1 + 1)), (by first | rfl | (simp; done) | (simp [*]; done)), H', ⟨by have := HK1.out; omega⟩, ⟨by (with_reducible repeat (first | apply Kd.R_alloc | apply Kd.R_drewN | apply Kd.R_drew)); exact HO357.out⟩, ⟨by (with_reducible repeat (first | refine blk_drewN ?_ _ | refine blk_drew ?_ | refine blk_alloc ?_ _)); exact BK341.out⟩, ⟨by repeat (first | (with_reducible first | exact HB.out | apply below_alloc | apply pw_below_drewN | apply below_drew1 | refine below_set ?_ GE341.out | refine below_set ?_ GE353.out) | exact HB.out)⟩⟩
              · rw [if_neg c21] at H
                exact absurd H (by simp)
            · rw [if_neg c19] at H
              exact absurd H (by simp)
          · rw [if_neg c18] at H
            exact absurd H (by simp)
        · rw [if_neg c17] at H
          have c17b0 : decide (x25_1 < (l0_2.length : Int)) = false := decide_eq_false c17
          clear c17
          simp only [Option.some.injEq, Prod.mk.injEq] at H
          obtain ⟨rfl, rfl⟩ := H
          go_wp2
          go_ret2
          exact ⟨_, by first | rfl | (simp [errW_none, errW_some] <;> rfl) | (simp [*, errW_none, errW_some] <;> rfl), by (with_reducible repeat (first | apply Kd.R_alloc | apply Kd.R_drewN | apply Kd.R_drew)); exact HO_4.out, by repeat (first | (with_reducible first | exact HB.out | apply below_alloc | apply pw_below_drewN | apply below_drew1 | refine below_set ?_ GE341.out) | exact HB.out)⟩
  · replace c3 := Bool.eq_false_iff.mpr c3
    subst c3
    have H1 : (some (([] : List Int), 1)) = some (r1, r2) := by rw [if_neg (show ¬ (false = true) by decide)] at H; exact H
    clear H
    have H := H1
    clear H1
    simp only [Option.some.injEq, Prod.mk.injEq] at H
    obtain ⟨rfl, rfl⟩ := H
    go_enter Try.func29, Try.ntmps29
    go_wp2_with (first | ((with_reducible refine gate_dst (N := 1) rfl ?_); refine box_event ?hg (N := 1) ?hd (cs := #[.string a0_0, .int .i64 a0_1, .slice A0_2 l0_2.length c0_2]) (t := 27) ?hr ?_; (case hd => rfl); (case hg => rfl); (case hr => first | (go_simp; done) | (go_simp; rfl)); intro gb341 hg w27 hbox hb; have n0_ := Aside0.mk (below_step (by repeat (first | (with_reducible first | exact HB.out | apply below_alloc | apply pw_below_drewN | apply below_drew1) | exact HB.out)) hb); have n1_ := Aside0.mk (hbox); have n2_ := Aside0.mk ((by rw [hg]; exact (below_size (by repeat (first | (with_reducible first | exact HB.out | apply below_alloc | apply pw_below_drewN | apply below_drew1) | exact HB.out))) : w.heap.size ≤ gb341)); have n3_ := Aside0.mk ((by rw [hg]; exact (below_size (by repeat (first | (with_reducible first | exact HB.out | apply below_alloc | apply pw_below_drewN | apply below_drew1) | exact HB.out))) : w.heap.size ≤ gb341)); clear HB; have HB := n0_; have BK341 := n1_; have GW341 := n2_; have GE341 := n3_; clear n0_ n1_ n2_ n3_; clear hb hbox hg; have hcz28_0 : w27.cell? ⟨gb341, 0, none⟩ = some (.string a0_0) := (blk_cell BK341.out 0).trans rfl; have hcz28_1 : w27.cell? ⟨gb341, 1, none⟩ = some (.int .i64 a0_1) := (blk_cell BK341.out 1).trans rfl; have hcz28_2 : w27.cell? ⟨gb341, 2, none⟩ = some (.slice A0_2 l0_2.length c0_2) := (blk_cell BK341.out 2).trans rfl; have hfz28_0 := blk_frozen BK341.out 0; have hfz28_1 := blk_frozen BK341.out 1; have hfz28_2 := blk_frozen BK341.out 2) | ((with_reducible refine gate_callee (f := 15) rfl ?_); refine goesL_ (some 8) rfl rfl Try.func15 (by kernel_rfl) rfl #[.agg #[.string a0_0, .int .i64 a0_1, .slice A0_2 l0_2.length c0_2]] rfl (by (try simp only [List.map_toArray, List.map_cons, List.map_nil]); first | done | rfl | (simp only [List.length_drop, List.length_take]; rfl)) ?_; (with_reducible refine (audit_May.calls k a0_0 a0_1 _ _ l0_2 false _ ?side1 ?side2 A2.out).mono ?_); (case side1 => repeat (first | exact (Kd.C_below HR0_2.out HB.out) | (with_reducible refine Kd.C_alloc ?_ _) | (with_reducible refine Kd.C_drewN ?_ _) | (with_reducible refine Kd.C_drew ?_))); (case side2 => exact HC0_2.out); rintro e w29 ⟨rfl, hb⟩; refine ⟨_, rfl, ?_⟩; have n0_ := Aside0.mk (blk_below (g := gb341) (o := .cells #[.string a0_0, .int .i64 a0_1, .slice A0_2 l0_2.length c0_2] 27 (0, 0)) (by (with_reducible repeat (first | refine blk_drewN ?_ _ | refine blk_drew ?_ | refine blk_alloc ?_ _)); exact BK341.out) hb); have n1_ := Aside0.mk (below_step (by repeat (first | (with_reducible first | exact HB.out | apply below_alloc | apply pw_below_drewN | apply below_drew1 | refine below_set ?_ GE341.out) | exact HB.out)) hb); clear BK341; clear HB; have BK341 := n0_; have HB := n1_; clear n0_ n1_; (try clear hb); (try clear hb2); (try clear hk); (try clear hi)))
    go_ret2
    exact ⟨_, by first | rfl | (simp [errW_none, errW_some] <;> rfl) | (simp [*, errW_none, errW_some] <;> rfl), by first | exact Kd.R_nil _ _ _ _ _ | exact Kd.N_nil _ _ _ _ _ | exact Kd.V_nil _ _ _ _ _ | exact Kd.Q_nil _ _ _ _ _ | exact Kd.S_nil _ _ _ _ _, by repeat (first | (with_reducible first | exact HB.out | apply below_alloc | apply pw_below_drewN | apply below_drew1 | refine below_set ?_ GE341.out) | exact HB.out)⟩

end Go.Proofs.Ytmifoihfpjomaaa.F

-- F40
namespace Go.Proofs.Ytmifoihfpjomaaa.F
open Go.RowKit Go.Proofs.YtmifoihfpjomaaaW.PrintWords Go.Proofs.YtmifoihfpjomaaaW.PrintLast Go.Proofs.YtmifoihfpjomaaaW.PrintMore Go Go.Proofs.YtmifoihfpjomaaaR
attribute [local go_sem] max2_int min2_int max_two min_two max_three min_three max_four min_four   -- for this text's walks alone
set_option linter.unusedVariables false
set_option linter.unusedSimpArgs false

end Go.Proofs.Ytmifoihfpjomaaa.F

-- F11
namespace Go.Proofs.Ytmifoihfpjomaaa.F
open Go.RowKit Go.Proofs.YtmifoihfpjomaaaW.PrintWords Go.Proofs.YtmifoihfpjomaaaW.PrintLast Go.Proofs.YtmifoihfpjomaaaW.PrintMore
attribute [local go_sem] max2_int min2_int max_two min_two max_three min_three max_four min_four   -- for this text's walks alone
set_option linter.unusedVariables false
set_option linter.unusedSimpArgs false

/-! ### audit_New: function 11 -/
def audit_New.f  : Option (ByteArray × Int × (List (S36))) := if 32 ≤ 281474976710656 then (some (strOfNums (List.replicate 32 0), 0, ([] : List (S36)))) else (none)
set_option maxHeartbeats 8000000 in
set_option maxRecDepth 100000 in
theorem audit_New.calls  (r1 : ByteArray) (r2 : Int) (r3 : List (S36)) (w : World) (h : audit_New.f  = some (r1, r2, r3)) :
    Calls Try.prog 11 #[] w fun e w' => ∃ v2_ : Value, e = .returned (.agg #[.string r1, .int .i64 r2, v2_]) ∧ Kd.R k36 36 w' w.heap.size (fun _ => True) v2_ r3 ∧ Below w.heap.size w w' := by
  have hu27 := Try.underlying27
  have HB := Aside0.mk (Below.refl w.heap.size w)
  have H : (if 32 ≤ 281474976710656 then (some (strOfNums (List.replicate 32 0), 0, ([] : List (S36)))) else (none)) = some (r1, r2, r3) := h
  clear h
  by_cases c1 : 32 ≤ 281474976710656
  · rw [if_pos c1] at H
    have c1b0 := eq_true c1
    have c1b1 : decide (32 ≤ 281474976710656) = true := decide_eq_true c1
    clear c1
    obtain ⟨y104, hy104⟩ : ∃ y_ : List Int, y_ = (List.replicate 32 0) := ⟨_, rfl⟩
    replace H : (some (strOfNums y104, 0, ([] : List (S36)))) = some (r1, r2, r3) := by first | (rw [hy104]; with_reducible exact H) | (have H2_ := (Option.bind_some _ _).symm.trans H; rw [hy104]; with_reducible exact H2_) | (have H2_ := (Option.bind_some _ _).symm.trans H; with_reducible exact H2_) | with_reducible exact H | (rw [hy104]; exact H) | exact H
    have Ny104 := Aside0.mk hy104
    clear hy104
    simp only [Option.some.injEq, Prod.mk.injEq] at H
    obtain ⟨rfl, rfl, rfl⟩ := H
    go_enter Try.func11, Try.ntmps11
    go_wp2_with (first | ((with_reducible refine gate_dst (N := 0) rfl ?_); refine box_event ?hg (N := 0) ?hd (cs := #[.string (⟨#[]⟩ : ByteArray), .int .i64 0, .slice none 0 0]) (t := 27) ?hr ?_; (case hd => rfl); (case hg => rfl); (case hr => first | (go_simp; done) | (go_simp; rfl)); intro gb103 hg w2 hbox hb; have n0_ := Aside0.mk (below_step (by repeat (first | (with_reducible first | exact HB.out | apply below_alloc | apply pw_below_drewN | apply below_drew1) | exact HB.out)) hb); have n1_ := Aside0.mk (hbox); have n2_ := Aside0.mk ((by rw [hg]; exact (below_size (by repeat (first | (with_reducible first | exact HB.out | apply below_alloc | apply pw_below_drewN | apply below_drew1) | exact HB.out))) : w.heap.size ≤ gb103)); have n3_ := Aside0.mk ((by rw [hg]; exact (below_size (by repeat (first | (with_reducible first | exact HB.out | apply below_alloc | apply pw_below_drewN | apply below_drew1) | exact HB.out))) : w.heap.size ≤ gb103)); clear HB; have HB := n0_; have BK103 := n1_; have GW103 := n2_; have GE103 := n3_; clear n0_ n1_ n2_ n3_; clear hb hbox hg) | ((with_reducible refine gate_dst (N := 1) rfl ?_); refine Kd.R_make (Kd.int .u8) _ 5 rfl (N := 1) rfl 45 _ _ rfl 32 rfl rfl Try.underlying45 (.int .u8 0) 1 info5 rfl (by decide) (by omega) 0 (ok := fun _ => True) (okp := fun _ => True) rfl (fun _ hk => hk) trivial (by omega) (by omega) (Below.refl _ _) (Nat.le_refl _) ?_; intro v105 w3 ho4 hb hg_ hnew_; clear hg_ hnew_; (first | rw [← Ny104.out] at ho4 | (simp only [Int.reduceToNat] at ho4; rw [← Ny104.out] at ho4)); have n0_ := Aside0.mk (Kd.R_lower ho4 (below_size (by repeat (first | (with_reducible first | exact HB.out | apply below_alloc | apply pw_below_drewN | apply below_drew1 | refine below_set ?_ GE103.out) | exact HB.out)))); have n1_ := Aside0.mk (blk_below (g := gb103) (o := .cells #[.string (⟨#[]⟩ : ByteArray), .int .i64 0, .slice none 0 0] 27 (0, 0)) (by (with_reducible repeat (first | refine blk_drewN ?_ _ | refine blk_drew ?_ | refine blk_alloc ?_ _)); exact BK103.out) hb); have n2_ := Aside0.mk (below_step (by repeat (first | (with_reducible first | exact HB.out | apply below_alloc | apply pw_below_drewN | apply below_drew1 | refine below_set ?_ GE103.out) | exact HB.out)) hb); clear BK103; clear HB; have HO106 := n0_; have BK103 := n1_; have HB := n2_; clear n0_ n1_ n2_; clear hb ho4; have hcv5 := own_string (P := Try.prog) Try.underlying45 Try.underlying5 Try.underlying9 (Kd.own_of_R HO106.out); have hcz6_0 : w3.cell? ⟨gb103, 0, none⟩ = some (.string (⟨#[]⟩ : ByteArray)) := (blk_cell BK103.out 0).trans rfl; have hcz6_1 : w3.cell? ⟨gb103, 1, none⟩ = some (.int .i64 0) := (blk_cell BK103.out 1).trans rfl; have hcz6_2 : w3.cell? ⟨gb103, 2, none⟩ = some (.slice none 0 0) := (blk_cell BK103.out 2).trans rfl; have hfz6_0 := blk_frozen BK103.out 0; have hfz6_1 := blk_frozen BK103.out 1; have hfz6_2 := blk_frozen BK103.out 2))
    refine bodyPost_ret (results_cell_row rfl _ _ gb103 27 #[.string (strOfNums y104), .int .i64 0, .slice none 0 0] (0, 0) _ rfl (by (with_reducible repeat (first | refine blk_drewN ?_ _ | refine blk_drew ?_ | refine blk_alloc ?_ _)); refine blk_put (cs := #[.string (strOfNums y104), .int .i64 0, .slice none 0 0]) ?_ 2 _ rfl; (with_reducible repeat (first | refine blk_drewN ?_ _ | refine blk_drew ?_ | refine blk_alloc ?_ _)); refine blk_put (cs := #[.string (strOfNums y104), .int .i64 0, .slice none 0 0]) ?_ 1 _ rfl; (with_reducible repeat (first | refine blk_drewN ?_ _ | refine blk_drew ?_ | refine blk_alloc ?_ _)); refine blk_put (cs := #[.string (⟨#[]⟩ : ByteArray), .int .i64 0, .slice none 0 0]) ?_ 0 _ rfl; (with_reducible repeat (first | refine blk_drewN ?_ _ | refine blk_drew ?_ | refine blk_alloc ?_ _)); exact BK103.out) Try.underlying27 rfl (by kernel_rfl)) rfl ?_
    exact ⟨_, by first | rfl | (simp [errW_none, errW_some] <;> rfl) | (simp [*, errW_none, errW_some] <;> rfl), by first | exact Kd.R_nil _ _ _ _ _ | exact Kd.N_nil _ _ _ _ _ | exact Kd.V_nil _ _ _ _ _ | exact Kd.Q_nil _ _ _ _ _ | exact Kd.S_nil _ _ _ _ _, by repeat (first | (with_reducible first | exact HB.out | apply below_alloc | apply pw_below_drewN | apply below_drew1 | refine below_set ?_ GE103.out) | exact HB.out)⟩
  · rw [if_neg c1] at H
    exact absurd H (by simp)

end Go.Proofs.Ytmifoihfpjomaaa.F

-- F16
namespace Go.Proofs.Ytmifoihfpjomaaa.F
open Go.RowKit Go.Proofs.YtmifoihfpjomaaaW.PrintWords Go.Proofs.YtmifoihfpjomaaaW.PrintLast Go.Proofs.YtmifoihfpjomaaaW.PrintMore
attribute [local go_sem] max2_int min2_int max_two min_two max_three min_three max_four min_four   -- for this text's walks alone
set_option linter.unusedVariables false
set_option linter.unusedSimpArgs false

/-! ### strongroomlaw13_mine: function 16 -/
def strongroomlaw13_mine.f (a0_0 : ByteArray) (a0_1 : Int) (l0_2 : List (S36)) : Option (ByteArray × Int × (List (S36))) := if ([] : List (S36)).length + l0_2.length < 2932031007402 then (some (a0_0, a0_1, (([] : List (S36)) ++ l0_2))) else (none)
def strongroomlaw13_mine.T2 : Bool × List (List Nat × List Nat) := (true, [([], []), ([0], [0]), ([], []), ([2], [2]), ([], []), ([], []), ([5], [5]), ([4, 6], [4, 6]), ([1, 3, 7], [1, 3, 7]), ([8, 7, 0, 1, 2, 3, 4, 5, 6, 7, 8], [8])])
def strongroomlaw13_mine.B2 : List Nat := [0, 1, 0, 4, 0, 0, 32, 112, 255, 511]
theorem strongroomlaw13_mine.tab2 : rtab .any (opsOf Try.f16 2) = strongroomlaw13_mine.T2 := by kernel_rfl
theorem strongroomlaw13_mine.bits2 : waitsOk strongroomlaw13_mine.T2.2 strongroomlaw13_mine.B2 = true := by kernel_rfl
set_option maxHeartbeats 8000000 in
set_option maxRecDepth 100000 in
theorem strongroomlaw13_mine.calls (a0_0 : ByteArray) (a0_1 : Int) (A0_2 : Option Addr) (c0_2 : Nat) (l0_2 : List (S36)) (r1 : ByteArray) (r2 : Int) (r3 : List (S36)) (w : World) (hr0_2 : Kd.C k36 w A0_2 l0_2.length l0_2) (hc0_2 : l0_2.length ≤ c0_2) (h : strongroomlaw13_mine.f a0_0 a0_1 l0_2 = some (r1, r2, r3)) :
    Calls Try.prog 16 #[.agg #[.string a0_0, .int .i64 a0_1, .slice A0_2 l0_2.length c0_2]] w fun e w' => ∃ v2_ : Value, e = .returned (.agg #[.string r1, .int .i64 r2, v2_]) ∧ Kd.R k36 36 w' w.heap.size (fun _ => True) v2_ r3 ∧ Below w.heap.size w w' := by
  have hu24 := Try.underlying24
  have hu27 := Try.underlying27
  have HR0_2 := Aside0.mk hr0_2
  have HC0_2 := Aside0.mk hc0_2
  clear hr0_2 hc0_2
  have HB := Aside0.mk (Below.refl w.heap.size w)
  have H : (if ([] : List (S36)).length + l0_2.length < 2932031007402 then (some (a0_0, a0_1, (([] : List (S36)) ++ l0_2))) else (none)) = some (r1, r2, r3) := h
  clear h
  by_cases c2 : ([] : List (S36)).length + l0_2.length < 2932031007402
  · rw [if_pos c2] at H
    have LMc2 := Aside0.mk c2
    clear c2
    obtain ⟨y254, hy254⟩ : ∃ y_ : List (S36), y_ = (([] : List (S36)) ++ l0_2) := ⟨_, rfl⟩
    replace H : (some (a0_0, a0_1, y254)) = some (r1, r2, r3) := by first | (rw [hy254]; with_reducible exact H) | (have H2_ := (Option.bind_some _ _).symm.trans H; rw [hy254]; with_reducible exact H2_) | (have H2_ := (Option.bind_some _ _).symm.trans H; with_reducible exact H2_) | with_reducible exact H | (rw [hy254]; exact H) | exact H
    have Ny254 := Aside0.mk hy254
    clear hy254
    simp only [Option.some.injEq, Prod.mk.injEq] at H
    obtain ⟨rfl, rfl, rfl⟩ := H
    go_enter Try.func16, Try.ntmps16
    try go_wp2_with (first | ((with_reducible refine gate_dst (N := 1) rfl ?_); refine box_event ?hg (N := 1) ?hd (cs := #[.string a0_0, .int .i64 a0_1, .slice A0_2 l0_2.length c0_2]) (t := 24) ?hr ?_; (case hd => rfl); (case hg => rfl); (case hr => first | (go_simp; done) | (go_simp; rfl)); intro gb252 hg w3 hbox hb; have n0_ := Aside0.mk (below_step (by repeat (first | (with_reducible first | exact HB.out | apply below_alloc | apply pw_below_drewN | apply below_drew1) | exact HB.out)) hb); have n1_ := Aside0.mk (hbox); have n2_ := Aside0.mk ((by rw [hg]; exact (below_size (by repeat (first | (with_reducible first | exact HB.out | apply below_alloc | apply pw_below_drewN | apply below_drew1) | exact HB.out))) : w.heap.size ≤ gb252)); have n3_ := Aside0.mk ((by rw [hg]; exact (below_size (by repeat (first | (with_reducible first | exact HB.out | apply below_alloc | apply pw_below_drewN | apply below_drew1) | exact HB.out))) : w.heap.size ≤ gb252)); clear HB; have HB := n0_; have BK252 := n1_; have GW252 := n2_; have GE252 := n3_; clear n0_ n1_ n2_ n3_; clear hb hbox hg) | ((with_reducible refine gate_dst (N := 2) rfl ?_); refine box_event ?hg (N := 2) ?hd (cs := #[.string (⟨#[]⟩ : ByteArray), .int .i64 0, .slice none 0 0]) (t := 27) ?hr ?_; (case hd => rfl); (case hg => rfl); (case hr => first | (go_simp; done) | (go_simp; rfl)); intro gb253 hg w4 hbox hb; have n0_ := Aside0.mk (blk_below (g := gb252) (o := .cells #[.string a0_0, .int .i64 a0_1, .slice A0_2 l0_2.length c0_2] 24 (0, 0)) (by (with_reducible repeat (first | refine blk_drewN ?_ _ | refine blk_drew ?_ | refine blk_alloc ?_ _)); exact BK252.out) hb); have n1_ := Aside0.mk (below_step (by repeat (first | (with_reducible first | exact HB.out | apply below_alloc | apply pw_below_drewN | apply below_drew1 | refine below_set ?_ GE252.out) | exact HB.out)) hb); have n2_ := Aside0.mk (hbox); have n3_ := Aside0.mk ((by rw [hg]; exact (below_size (by repeat (first | (with_reducible first | exact HB.out | apply below_alloc | apply pw_below_drewN | apply below_drew1 | refine below_set ?_ GE252.out) | exact HB.out))) : w.heap.size ≤ gb253)); have n4_ := Aside0.mk ((by rw [hg]; exact (below_size (by repeat (first | (with_reducible first | exact HB.out | apply below_alloc | apply pw_below_drewN | apply below_drew1 | refine below_set ?_ GE252.out) | exact HB.out))) : w.heap.size ≤ gb253)); have n5_ := Aside0.mk ((by rw [hg]; exact Nat.ne_of_lt (blk_lt (g := gb252) (o := .cells #[.string a0_0, .int .i64 a0_1, .slice A0_2 l0_2.length c0_2] 24 (0, 0)) (by (with_reducible repeat (first | refine blk_drewN ?_ _ | refine blk_drew ?_ | refine blk_alloc ?_ _)); exact BK252.out)) : gb252 ≠ gb253)); have n6_ := Aside0.mk ((by rw [hg]; exact Nat.ne_of_gt (blk_lt (g := gb252) (o := .cells #[.string a0_0, .int .i64 a0_1, .slice A0_2 l0_2.length c0_2] 24 (0, 0)) (by (with_reducible repeat (first | refine blk_drewN ?_ _ | refine blk_drew ?_ | refine blk_alloc ?_ _)); exact BK252.out)) : gb253 ≠ gb252)); clear BK252; clear HB; have BK252 := n0_; have HB := n1_; have BK253 := n2_; have GW253 := n3_; have GE253 := n4_; have NB252_253 := n5_; have NB253_252 := n6_; clear n0_ n1_ n2_ n3_ n4_ n5_ n6_; clear hb hbox hg))
    have n0_ := Aside0.mk (blk_drew BK252.out)
    have n1_ := Aside0.mk (blk_drew BK253.out)
    have n2_ := Aside0.mk (below_drew1 HB.out)
    clear BK252
    clear BK253
    clear HB
    have BK252 := n0_
    have BK253 := n1_
    have HB := n2_
    clear n0_ n1_ n2_
    refine start_ (n := 10) (S := fun w' => w'.cell? ⟨gb252, 0, none⟩ = some (.string a0_0) ∧ w'.cell? ⟨gb252, 1, none⟩ = some (.int .i64 a0_1) ∧ w'.cell? ⟨gb252, 2, none⟩ = some (.slice A0_2 l0_2.length c0_2)) (ds := []) #[false, false, false, false, false, false, false, false, false, false] (by kernel_rfl) rfl rfl ⟨(blk_cell BK252.out 0).trans rfl, (blk_cell BK252.out 1).trans rfl, (blk_cell BK252.out 2).trans rfl⟩ (fun hHeld => ?_); refine with_tabW strongroomlaw13_mine.tab2 strongroomlaw13_mine.bits2 (fun HT_ HW_ => ?_)
    generalize w4.drew = w5 at BK252 BK253 HB hHeld ⊢
    refine pure_ (i := 0) (N := some 4) (v := ?_) (a' := ?_) #[true, false, false, false, false, false, false, false, false, false] rfl rfl (any_of HT_.out (by kernel_rfl)) (fun _ _ _ h => h) (Or.inl ⟨by rfl, ?_⟩) ?_ ?_
    rotate_left
    · intro w'
      go_simp
      with_reducible rfl
    rotate_left
    · simp only [Act.put, List.setIfInBounds_toArray, List.set_cons_zero, List.set_cons_succ, i64_w, i32_w]
      rfl
    refine pure_ (i := 2) (N := some 6) (v := ?_) (a' := ?_) #[true, false, true, false, false, false, false, false, false, false] rfl rfl (any_of HT_.out (by kernel_rfl)) (fun _ _ _ h => h) (Or.inl ⟨by rfl, ?_⟩) ?_ ?_
    rotate_left
    · intro w'
      go_simp
      with_reducible rfl
    rotate_left
    · simp only [Act.put, List.setIfInBounds_toArray, List.set_cons_zero, List.set_cons_succ, i64_w, i32_w]
      rfl
    refine pure_ (i := 4) (N := some 8) (v := ?_) (a' := ?_) #[true, false, true, false, true, false, false, false, false, false] rfl rfl (any_of HT_.out (by kernel_rfl)) (fun _ _ _ h => h) (Or.inl ⟨by rfl, ?_⟩) ?_ ?_
    rotate_left
    · intro w'
      go_simp
      with_reducible rfl
    rotate_left
    · simp only [Act.put, List.setIfInBounds_toArray, List.set_cons_zero, List.set_cons_succ, i64_w, i32_w]
      rfl
    refine pure_ (i := 5) (N := some 9) (v := ?_) (a' := ?_) #[true, false, true, false, true, true, false, false, false, false] rfl rfl (any_of HT_.out (by kernel_rfl)) (fun _ _ _ h => h) (Or.inl ⟨by rfl, ?_⟩) ?_ ?_
    rotate_left
    · intro w'
      go_simp
      with_reducible rfl
    rotate_left
    · simp only [Act.put, List.setIfInBounds_toArray, List.set_cons_zero, List.set_cons_succ, i64_w, i32_w]
      rfl
    refine take_ (i := 1) (N := some 5) (v := ?_) (a' := ?_) #[true, true, true, false, true, true, false, false, false, false] rfl rfl (take_ofW HT_.out HW_.out (by kernel_rfl)) (fun _ _ _ h => h) (Or.inl ⟨by rfl, ?_⟩) hHeld ?_ ?_
    rotate_left
    · rintro w' ⟨s0, s1, s2⟩
      go_simp
      with_reducible rfl
    rotate_left
    · simp only [Act.put, List.setIfInBounds_toArray, List.set_cons_zero, List.set_cons_succ, i64_w, i32_w]
      rfl
    refine take_ (i := 3) (N := some 7) (v := ?_) (a' := ?_) #[true, true, true, true, true, true, false, false, false, false] rfl rfl (take_ofW HT_.out HW_.out (by kernel_rfl)) (fun _ _ _ h => h) (Or.inl ⟨by rfl, ?_⟩) hHeld ?_ ?_
    rotate_left
    · rintro w' ⟨s0, s1, s2⟩
      go_simp
      with_reducible rfl
    rotate_left
    · simp only [Act.put, List.setIfInBounds_toArray, List.set_cons_zero, List.set_cons_succ, i64_w, i32_w]
      rfl
    refine take_ (i := 6) (N := some 10) (v := ?_) (a' := ?_) #[true, true, true, true, true, true, true, false, false, false] rfl rfl (take_ofW HT_.out HW_.out (by kernel_rfl)) (fun _ _ _ h => h) (Or.inl ⟨by rfl, ?_⟩) hHeld ?_ ?_
    rotate_left
    · rintro w' ⟨s0, s1, s2⟩
      go_simp
      with_reducible rfl
    rotate_left
    · simp only [Act.put, List.setIfInBounds_toArray, List.set_cons_zero, List.set_cons_succ, i64_w, i32_w]
      rfl
    refine one_ (i := 7) (N := some 11) #[true, true, true, true, true, true, true, true, false, false] rfl rfl (one_of HT_.out (by kernel_rfl)) (by decide) (fun K hK => ?_)
    refine Kd.R_append_rows_step k36 (w0 := w) w.heap.size (by rfl) (.tmp 8) (.tmp 10) 22 36 (.agg #[(.int .i64 0), (.int .i64 0), (.int .i64 0), (.string ⟨#[]⟩), (.int .i64 0)]) 48 rfl Try.underlying22 info36 rfl (by decide) (by omega) (.slice none 0 0) ([] : List (S36)) l0_2 _ _ _ (fun _ => True) (fun _ => False) rfl rfl ?aO ?aR (fun _ _ h => h) (fun _ h => h.elim) ?aF ?aB ?aS ?aL ?_
    (case aR => repeat (first | exact (Kd.C_below HR0_2.out HB.out) | (with_reducible refine Kd.C_alloc ?_ _) | (with_reducible refine Kd.C_drewN ?_ _) | (with_reducible refine Kd.C_drew ?_)))
    (case aB => exact (by repeat (first | (with_reducible first | exact HB.out | apply below_alloc | apply pw_below_drewN | apply below_drew1 | refine below_set ?_ GE252.out | refine below_set ?_ GE253.out) | exact HB.out)))
    (case aF => exact (fun _ _ => trivial))
    (case aO => exact ((Kd.R_nil _ _ _ _ (fun _ => True))))
    (case aS => exact (below_size (by repeat (first | (with_reducible first | exact HB.out | apply below_alloc | apply pw_below_drewN | apply below_drew1 | refine below_set ?_ GE252.out | refine below_set ?_ GE253.out) | exact HB.out))))
    (case aL => have := LMc2.out; omega)
    intro v255 w6 ho hb hg hat
    rw [← Ny254.out] at ho
    have n0_ := Aside0.mk (blk_grown (g := gb252) (o := .cells #[.string a0_0, .int .i64 a0_1, .slice A0_2 l0_2.length c0_2] 24 (0, 0)) (by (with_reducible repeat (first | refine blk_drewN ?_ _ | refine blk_drew ?_ | refine blk_alloc ?_ _)); exact BK252.out) hg (by simp [Value.ownBlock]))
    have n1_ := Aside0.mk (blk_grown (g := gb253) (o := .cells #[.string (⟨#[]⟩ : ByteArray), .int .i64 0, .slice none 0 0] 27 (0, 0)) (by (with_reducible repeat (first | refine blk_drewN ?_ _ | refine blk_drew ?_ | refine blk_alloc ?_ _)); exact BK253.out) hg (by simp [Value.ownBlock]))
    have n2_ := Aside0.mk (hb)
    have n3_ := Aside0.mk (ho)
    clear BK252
    clear BK253
    clear HB
    have BK252 := n0_
    have BK253 := n1_
    have HB := n2_
    have HO256 := n3_
    clear n0_ n1_ n2_ n3_
    clear ho hb hg hat
    obtain ⟨Ao7, co7, eo7⟩ := Kd.R_slice HO256.out
    (first | subst eo7 | (injection eo7 with f1_ f2_ f3_; have f4_ := f1_.symm; have f5_ := f3_.symm; clear f1_ f2_ f3_; subst f4_; subst f5_))
    refine hK.out _ _ ⟨(blk_cell BK252.out 0).trans rfl, (blk_cell BK252.out 1).trans rfl, (blk_cell BK252.out 2).trans rfl⟩ (fun hHeld => ?_)
    clear hK K
    refine norm_ (a' := ?_) ?_ ?_
    rotate_left
    · show Act.put _ (some 11) _ = _
      simp only [Act.put, List.setIfInBounds_toArray, List.set_cons_zero, List.set_cons_succ, i64_w, i32_w]
      rfl
    refine pure_ (i := 8) (N := some 12) (v := ?_) (a' := ?_) #[true, true, true, true, true, true, true, true, true, false] rfl rfl (any_of HT_.out (by kernel_rfl)) (fun _ _ _ h => h) (Or.inl ⟨by rfl, ?_⟩) ?_ ?_
    rotate_left
    · intro w'
      go_simp
      with_reducible rfl
    rotate_left
    · simp only [Act.put, List.setIfInBounds_toArray, List.set_cons_zero, List.set_cons_succ, i64_w, i32_w]
      rfl
    refine one_ (i := 9) (N := none) #[true, true, true, true, true, true, true, true, true, true] rfl rfl (one_of HT_.out (by kernel_rfl)) (by decide) (fun K hK => ?_)
    have hs8 : w6.cell? ⟨gb253, 0, none⟩ = some (.string (⟨#[]⟩ : ByteArray)) := (blk_cell BK253.out 0).trans rfl
    have hfs8 := blk_frozen BK253.out 0
    have hns8_0 := NB252_253.out
    have hms8_0 := NB253_252.out
    have hs9 : w6.cell? ⟨gb253, 1, none⟩ = some (.int .i64 0) := (blk_cell BK253.out 1).trans rfl
    have hfs9 := blk_frozen BK253.out 1
    have hns9_0 := NB252_253.out
    have hms9_0 := NB253_252.out
    have hs10 : w6.cell? ⟨gb253, 2, none⟩ = some (.slice none 0 0) := (blk_cell BK253.out 2).trans rfl
    have hfs10 := blk_frozen BK253.out 2
    have hns10_0 := NB252_253.out
    have hms10_0 := NB253_252.out
    refine skip_ (w1 := ?_) (by rfl) rfl ?_ ?_
    rotate_left
    · go_simp
      rfl
    refine hK.out _ _ ⟨((cell_far (p := ⟨gb253, _, none⟩) NB252_253.out _).trans (((cell_far (p := ⟨gb253, _, none⟩) NB252_253.out _).trans (((cell_far (p := ⟨gb253, _, none⟩) NB252_253.out _).trans (hHeld.1)))))), ((cell_far (p := ⟨gb253, _, none⟩) NB252_253.out _).trans (((cell_far (p := ⟨gb253, _, none⟩) NB252_253.out _).trans (((cell_far (p := ⟨gb253, _, none⟩) NB252_253.out _).trans (hHeld.2.1)))))), ((cell_far (p := ⟨gb253, _, none⟩) NB252_253.out _).trans (((cell_far (p := ⟨gb253, _, none⟩) NB252_253.out _).trans (((cell_far (p := ⟨gb253, _, none⟩) NB252_253.out _).trans (hHeld.2.2))))))⟩ (fun hHeld => ?_)
    clear hK K
    refine done_ (done_of HT_.out (by kernel_rfl)) ?_
    try go_wp2
    refine bodyPost_ret (results_cell_row rfl _ _ gb253 27 #[.string a0_0, .int .i64 a0_1, .slice Ao7 y254.length co7] (0, 0) _ rfl (by (with_reducible repeat (first | refine blk_drewN ?_ _ | refine blk_drew ?_ | refine blk_alloc ?_ _)); refine blk_put (cs := #[.string a0_0, .int .i64 a0_1, .slice none 0 0]) ?_ 2 _ rfl; (with_reducible repeat (first | refine blk_drewN ?_ _ | refine blk_drew ?_ | refine blk_alloc ?_ _)); refine blk_put (cs := #[.string a0_0, .int .i64 0, .slice none 0 0]) ?_ 1 _ rfl; (with_reducible repeat (first | refine blk_drewN ?_ _ | refine blk_drew ?_ | refine blk_alloc ?_ _)); refine blk_put (cs := #[.string (⟨#[]⟩ : ByteArray), .int .i64 0, .slice none 0 0]) ?_ 0 _ rfl; (with_reducible repeat (first | refine blk_drewN ?_ _ | refine blk_drew ?_ | refine blk_alloc ?_ _)); exact BK253.out) Try.underlying27 rfl (by kernel_rfl)) rfl ?_
    exact ⟨_, by first | rfl | (simp [errW_none, errW_some] <;> rfl) | (simp [*, errW_none, errW_some] <;> rfl), by (with_reducible repeat (first | apply Kd.R_alloc | apply Kd.R_drewN | apply Kd.R_drew)); exact Kd.R_mono (Kd.R_far (p := ⟨gb253, 2, none⟩) (Kd.R_far (p := ⟨gb253, 1, none⟩) (Kd.R_far (p := ⟨gb253, 0, none⟩) (Kd.R_types HO256.out BK253.out (by decide)) (fun _ hk => hk.2) (.string a0_0)) (fun _ hk => hk.2) (.int .i64 a0_1)) (fun _ hk => hk.2) (.slice Ao7 y254.length co7)) (fun _ hk => trivial), by repeat (first | (with_reducible first | exact HB.out | apply below_alloc | apply pw_below_drewN | apply below_drew1 | refine below_set ?_ GE252.out | refine below_set ?_ GE253.out) | exact HB.out)⟩
  · rw [if_neg c2] at H
    exact absurd H (by simp)

end Go.Proofs.Ytmifoihfpjomaaa.F

-- F13
namespace Go.Proofs.Ytmifoihfpjomaaa.F
open Go.RowKit Go.Proofs.YtmifoihfpjomaaaW.PrintWords Go.Proofs.YtmifoihfpjomaaaW.PrintLast Go.Proofs.YtmifoihfpjomaaaW.PrintMore
attribute [local go_sem] max2_int min2_int max_two min_two max_three min_three max_four min_four   -- for this text's walks alone
set_option linter.unusedVariables false
set_option linter.unusedSimpArgs false

end Go.Proofs.Ytmifoihfpjomaaa.F

-- F9
namespace Go.Proofs.Ytmifoihfpjomaaa.F
open Go.RowKit Go.Proofs.YtmifoihfpjomaaaW.PrintWords Go.Proofs.YtmifoihfpjomaaaW.PrintLast Go.Proofs.YtmifoihfpjomaaaW.PrintMore
attribute [local go_sem] max2_int min2_int max_two min_two max_three min_three max_four min_four   -- for this text's walks alone
set_option linter.unusedVariables false
set_option linter.unusedSimpArgs false

/-! ### strongroomlaw13_small: function 9 -/
mutual
def strongroomlaw13_small.j0 : Nat → Bool → ByteArray → Int → List (S36) → Option (Bool)
  | 0, _, _, _, _ => none
  | k + 1, x13, x102000, x102001, x102002 => if x13 = true then (some false) else (strongroomlaw13_small.l0 k 0 x102000 x102001 x102002)
def strongroomlaw13_small.l0 : Nat → Int → ByteArray → Int → List (S36) → Option (Bool)
  | 0, _, _, _, _ => none
  | k + 1, x3, x102000, x102001, x102002 => if x3 < (x102002.length : Int) then (if 0 ≤ x3 then (if (((rd_T36 x102002 x3).f3).size : Int) > 1000 then (some false) else (strongroomlaw13_small.l0 k (wrap64 (x3 + 1)) x102000 x102001 x102002)) else (none)) else (some true)
end
def strongroomlaw13_small.f (k : Nat) (a0_0 : ByteArray) (a0_1 : Int) (l0_2 : List (S36)) : Option (Bool) := if (l0_2.length : Int) > 40 then (strongroomlaw13_small.j0 k true a0_0 a0_1 l0_2) else (strongroomlaw13_small.j0 k (decide ((a0_0.size : Int) > 1000)) a0_0 a0_1 l0_2)
set_option maxHeartbeats 8000000 in
set_option maxRecDepth 100000 in
theorem strongroomlaw13_small.calls (k : Nat) (a0_0 : ByteArray) (a0_1 : Int) (A0_2 : Option Addr) (c0_2 : Nat) (l0_2 : List (S36)) (r : Bool) (w : World) (hr0_2 : Kd.C k36 w A0_2 l0_2.length l0_2) (hc0_2 : l0_2.length ≤ c0_2) (h : strongroomlaw13_small.f k a0_0 a0_1 l0_2 = some r) :
    Calls Try.prog 9 #[.agg #[.string a0_0, .int .i64 a0_1, .slice A0_2 l0_2.length c0_2]] w fun e w' => e = .returned (.bool r) ∧ Below w.heap.size w w' := by
  have hu24 := Try.underlying24
  have HR0_2 := Aside0.mk hr0_2
  have HC0_2 := Aside0.mk hc0_2
  clear hr0_2 hc0_2
  have HB := Aside0.mk (Below.refl w.heap.size w)
  have H : (if (l0_2.length : Int) > 40 then (strongroomlaw13_small.j0 k true a0_0 a0_1 l0_2) else (strongroomlaw13_small.j0 k (decide ((a0_0.size : Int) > 1000)) a0_0 a0_1 l0_2)) = some r := h
  clear h
  have HC2 := Aside0.mk H
  clear H
  go_enter Try.func9, Try.ntmps9
  go_upto_region 1 with (first | ((with_reducible refine gate_dst (N := 1) rfl ?_); (try (refine gate_guard (by rfl) ?_; dsimp only)); refine box_event ?hg (N := 1) ?hd (cs := #[.string a0_0, .int .i64 a0_1, .slice A0_2 l0_2.length c0_2]) (t := 24) ?hr ?_; (case hd => rfl); (case hg => rfl); (case hr => first | (go_simp; done) | (go_simp; rfl)); intro gb101 hg w3 hbox hb; have n0_ := Aside0.mk (below_step (by repeat (first | (with_reducible first | exact HB.out | apply below_alloc | apply pw_below_drewN | apply below_drew1) | exact HB.out)) hb); have n1_ := Aside0.mk (hbox); have n2_ := Aside0.mk ((by rw [hg]; exact (below_size (by repeat (first | (with_reducible first | exact HB.out | apply below_alloc | apply pw_below_drewN | apply below_drew1) | exact HB.out))) : w.heap.size ≤ gb101)); have n3_ := Aside0.mk ((by rw [hg]; exact (below_size (by repeat (first | (with_reducible first | exact HB.out | apply below_alloc | apply pw_below_drewN | apply below_drew1) | exact HB.out))) : w.heap.size ≤ gb101)); clear HB; have HB := n0_; have BK101 := n1_; have GW101 := n2_; have GE101 := n3_; clear n0_ n1_ n2_ n3_; clear hb hbox hg))
  (try simp only [Act.put, List.setIfInBounds_toArray, List.set_cons_zero, List.set_cons_succ])
  go_cut [13] (fun v13 wc => ∃ (kq : Nat) (x13_1 : Bool), v13 = .bool x13_1 ∧ Aside0 (strongroomlaw13_small.j0 kq x13_1 a0_0 a0_1 l0_2 = some r) ∧ Aside0 (kq ≤ k) ∧ Aside0 (wc.heap[gb101]? = some (.cells #[.string a0_0, .int .i64 a0_1, (.slice A0_2 l0_2.length c0_2)] 24 (0, 0))) ∧ Aside0 (Below w.heap.size w wc))
  case first =>
    have H := HC2.out
    clear HC2
    by_cases c4 : (l0_2.length : Int) > 40
    · rw [if_pos c4] at H
      have c4b0 : decide (40 < (l0_2.length : Int)) = true := decide_eq_true c4
      have c4b1 : decide (40 < l0_2.length) = true := decide_eq_true (by omega)
      clear c4
      (first | rw [c4b0] | (simp only [i64_w, i32_w]; rw [c4b0]) | skip)
      have H' := Aside0.mk H
      clear H
      have hcz5_0 : w3.cell? ⟨gb101, 0, none⟩ = some (.string a0_0) := (blk_cell BK101.out 0).trans rfl
      have hcz5_1 : w3.cell? ⟨gb101, 1, none⟩ = some (.int .i64 a0_1) := (blk_cell BK101.out 1).trans rfl
      have hcz5_2 : w3.cell? ⟨gb101, 2, none⟩ = some (.slice A0_2 l0_2.length c0_2) := (blk_cell BK101.out 2).trans rfl
      have hfz5_0 := blk_frozen BK101.out 0
      have hfz5_1 := blk_frozen BK101.out 1
      have hfz5_2 := blk_frozen BK101.out 2
      go_wp2
      go_meet
      case rel => exact ⟨_, (true), (by first | rfl | (simp; done) | (simp [*]; done)), H', ⟨by first | omega | exact Nat.le_refl _⟩, ⟨by (with_reducible repeat (first | refine blk_drewN ?_ _ | refine blk_drew ?_ | refine blk_alloc ?_ _)); exact BK101.out⟩, ⟨by repeat (first | (with_reducible first | exact HB.out | apply below_alloc | apply pw_below_drewN | apply below_drew1 | refine below_set ?_ GE101.out) | exact HB.out)⟩⟩
    · rw [if_neg c4] at H
      have c4b0 : decide (40 < (l0_2.length : Int)) = false := decide_eq_false c4
      have c4b1 : decide (40 < l0_2.length) = false := decide_eq_false (by omega)
      clear c4
      (first | rw [c4b0] | (simp only [i64_w, i32_w]; rw [c4b0]) | skip)
      have H' := Aside0.mk H
      clear H
      have hcz6_0 : w3.cell? ⟨gb101, 0, none⟩ = some (.string a0_0) := (blk_cell BK101.out 0).trans rfl
      have hcz6_1 : w3.cell? ⟨gb101, 1, none⟩ = some (.int .i64 a0_1) := (blk_cell BK101.out 1).trans rfl
      have hcz6_2 : w3.cell? ⟨gb101, 2, none⟩ = some (.slice A0_2 l0_2.length c0_2) := (blk_cell BK101.out 2).trans rfl
      have hfz6_0 := blk_frozen BK101.out 0
      have hfz6_1 := blk_frozen BK101.out 1
      have hfz6_2 := blk_frozen BK101.out 2
      go_wp2
      go_meet
      case rel => exact ⟨_, (decide ((a0_0.size : Int) > 1000)), (by first | rfl | (simp; done) | (simp [*]; done)), H', ⟨by first | omega | exact Nat.le_refl _⟩, ⟨by (with_reducible repeat (first | refine blk_drewN ?_ _ | refine blk_drew ?_ | refine blk_alloc ?_ _)); exact BK101.out⟩, ⟨by repeat (first | (with_reducible first | exact HB.out | apply below_alloc | apply pw_below_drewN | apply below_drew1 | refine below_set ?_ GE101.out) | exact HB.out)⟩⟩
  case rest =>
    clear HC2
    try clear p2
    try clear c4
    try clear c4b0
    try clear c4b1
    try clear hcz5_0
    try clear hcz5_1
    try clear hcz5_2
    try clear hcz6_0
    try clear hcz6_1
    try clear hcz6_2
    try clear hfz5_0
    try clear hfz5_1
    try clear hfz5_2
    try clear hfz6_0
    try clear hfz6_1
    try clear hfz6_2
    obtain ⟨kq, x13_1, rfl, HA, HJ1, BK101, HB⟩ := hcut
    cases kq with
    | zero => exact absurd HA.out (by simp [strongroomlaw13_small.j0])
    | succ kj1 =>
      have H := HA.out
      clear HA
      simp only [strongroomlaw13_small.j0] at H
      by_cases c7 : x13_1 = true
      · subst c7
        have H1 : (some false) = some r := by rw [if_pos rfl] at H; exact H
        clear H
        have H := H1
        clear H1
        obtain rfl := Option.some.inj H
        go_wp2
        go_ret
        exact ⟨by first | rfl | (simp [errW_none, errW_some] <;> rfl) | (simp [*, errW_none, errW_some] <;> rfl), by repeat (first | (with_reducible first | exact HB.out | apply below_alloc | apply pw_below_drewN | apply below_drew1 | refine below_set ?_ GE101.out) | exact HB.out)⟩
      · replace c7 := Bool.eq_false_iff.mpr c7
        subst c7
        have H1 : (strongroomlaw13_small.l0 kj1 0 a0_0 a0_1 l0_2) = some r := by rw [if_neg (show ¬ (false = true) by decide)] at H; exact H
        clear H
        have H := H1
        clear H1
        have H' := Aside0.mk H
        clear H
        go_wp2
        go_loopg [3] kj1 (fun kq v3 w' => ∃ (x3_2 : Int), v3 = .int .i64 x3_2 ∧ Aside0 (strongroomlaw13_small.l0 kq x3_2 a0_0 a0_1 l0_2 = some r) ∧ Aside0 (kq ≤ kj1) ∧ Aside0 (w'.heap[gb101]? = some (.cells #[.string a0_0, .int .i64 a0_1, (.slice A0_2 l0_2.length c0_2)] 24 (0, 0))) ∧ Aside0 (Below w.heap.size w w'))
        case atStart => exact ⟨(0), (by first | rfl | (simp; done) | (simp [*]; done)), H', ⟨Nat.le_refl _⟩, ⟨by (with_reducible repeat (first | refine blk_drewN ?_ _ | refine blk_drew ?_ | refine blk_alloc ?_ _)); exact BK101.out⟩, ⟨by repeat (first | (with_reducible first | exact HB.out | apply below_alloc | apply pw_below_drewN | apply below_drew1 | refine below_set ?_ GE101.out) | exact HB.out)⟩⟩
        case round =>
          clear H'
          try clear p2
          try clear c4
          try clear c4b0
          try clear c4b1
          try clear c7
          try clear hcz5_0
          try clear hcz5_1
          try clear hcz5_2
          try clear hcz6_0
          try clear hcz6_1
          try clear hcz6_2
          try clear hfz5_0
          try clear hfz5_1
          try clear hfz5_2
          try clear hfz6_0
          try clear hfz6_1
          try clear hfz6_2
          try clear p2
          obtain ⟨x3_2, rfl, HA, HK2, BK101, HB⟩ := hrel
          cases gk with
          | zero => exact absurd HA.out (by simp [strongroomlaw13_small.l0])
          | succ k2 =>
            have H := HA.out
            clear HA
            simp only [strongroomlaw13_small.l0] at H
            by_cases c8 : x3_2 < (l0_2.length : Int)
            · rw [if_pos c8] at H
              have c8b0 : decide (x3_2 < (l0_2.length : Int)) = true := decide_eq_true c8
              clear c8
              by_cases c9 : 0 ≤ x3_2
              · rw [if_pos c9] at H
                have c9b0 : decide (0 ≤ x3_2) = true := decide_eq_true c9
                clear c9
                by_cases c10 : (((rd_T36 l0_2 x3_2).f3).size : Int) > 1000
                · rw [if_pos c10] at H
                  have c10b0 : decide (1000 < (((rd_T36 l0_2 x3_2).f3).size : Int)) = true := decide_eq_true c10
                  have c10b1 : decide (1000 < ((rd_T36 l0_2 x3_2).f3).size) = true := decide_eq_true (by omega)
                  clear c10
                  obtain rfl := Option.some.inj H
                  have hcz11_0 : wr.cell? ⟨gb101, 0, none⟩ = some (.string a0_0) := (blk_cell BK101.out 0).trans rfl
                  have hcz11_1 : wr.cell? ⟨gb101, 1, none⟩ = some (.int .i64 a0_1) := (blk_cell BK101.out 1).trans rfl
                  have hcz11_2 : wr.cell? ⟨gb101, 2, none⟩ = some (.slice A0_2 l0_2.length c0_2) := (blk_cell BK101.out 2).trans rfl
                  have hfz11_0 := blk_frozen BK101.out 0
                  have hfz11_1 := blk_frozen BK101.out 1
                  have hfz11_2 := blk_frozen BK101.out 2
                  have p102 : 0 ≤ (x3_2 : Int) := of_decide_eq_true (by first | (with_reducible assumption) | assumption)
                  have q102 : x3_2 < (l0_2.length : Int) := of_decide_eq_true (by first | (with_reducible assumption) | assumption)
                  obtain ⟨ad102, e102, hx102_0, hx102_1, hx102_2, hx102_3, hx102_4⟩ := at_T36 HR0_2.out x3_2 p102 q102
                  cases e102
                  replace hx102_0 := (HB.out.cell (World.block_lt_of_cell? w _ hx102_0)).trans hx102_0
                  replace hx102_1 := (HB.out.cell (World.block_lt_of_cell? w _ hx102_1)).trans hx102_1
                  replace hx102_2 := (HB.out.cell (World.block_lt_of_cell? w _ hx102_2)).trans hx102_2
                  replace hx102_3 := (HB.out.cell (World.block_lt_of_cell? w _ hx102_3)).trans hx102_3
                  replace hx102_4 := (HB.out.cell (World.block_lt_of_cell? w _ hx102_4)).trans hx102_4
                  replace p102 := eq_true p102
                  replace q102 := eq_true q102
                  go_wp2
                  go_ret
                  exact ⟨by first | rfl | (simp [errW_none, errW_some] <;> rfl) | (simp [*, errW_none, errW_some] <;> rfl), by repeat (first | (with_reducible first | exact HB.out | apply below_alloc | apply pw_below_drewN | apply below_drew1 | refine below_set ?_ GE101.out) | exact HB.out)⟩
                · rw [if_neg c10] at H
                  have c10b0 : decide (1000 < (((rd_T36 l0_2 x3_2).f3).size : Int)) = false := decide_eq_false c10
                  have c10b1 : decide (1000 < ((rd_T36 l0_2 x3_2).f3).size) = false := decide_eq_false (by omega)
                  clear c10
                  have H' := Aside0.mk H
                  clear H
                  have hcz12_0 : wr.cell? ⟨gb101, 0, none⟩ = some (.string a0_0) := (blk_cell BK101.out 0).trans rfl
                  have hcz12_1 : wr.cell? ⟨gb101, 1, none⟩ = some (.int .i64 a0_1) := (blk_cell BK101.out 1).trans rfl
                  have hcz12_2 : wr.cell? ⟨gb101, 2, none⟩ = some (.slice A0_2 l0_2.length c0_2) := (blk_cell BK101.out 2).trans rfl
                  have hfz12_0 := blk_frozen BK101.out 0
                  have hfz12_1 := blk_frozen BK101.out 1
                  have hfz12_2 := blk_frozen BK101.out 2
                  have p102 : 0 ≤ (x3_2 : Int) := of_decide_eq_true (by first | (with_reducible assumption) | assumption)
                  have q102 : x3_2 < (l0_2.length : Int) := of_decide_eq_true (by first | (with_reducible assumption) | assumption)
                  obtain ⟨ad102, e102, hx102_0, hx102_1, hx102_2, hx102_3, hx102_4⟩ := at_T36 HR0_2.out x3_2 p102 q102
                  cases e102
                  replace hx102_0 := (HB.out.cell (World.block_lt_of_cell? w _ hx102_0)).trans hx102_0
                  replace hx102_1 := (HB.out.cell (World.block_lt_of_cell? w _ hx102_1)).trans hx102_1
                  replace hx102_2 := (HB.out.cell (World.block_lt_of_cell? w _ hx102_2)).trans hx102_2
                  replace hx102_3 := (HB.out.cell (World.block_lt_of_cell? w _ hx102_3)).trans hx102_3
                  replace hx102_4 := (HB.out.cell (World.block_lt_of_cell? w _ hx102_4)).trans hx102_4
                  replace p102 := eq_true p102
                  replace q102 := eq_true q102
                  go_wp2
                  go_roundg k2
                  case measure => have := HJ1.out; have := HK2.out; omega
                  case rel => exact ⟨(wrap64 (x3_2 + 1)), (by first | rfl | (simp; done) | (simp [*]; done)), H', ⟨by have := HJ1.out; have := HK2.out; omega⟩, ⟨by (with_reducible repeat (first | refine blk_drewN ?_ _ | refine blk_drew ?_ | refine blk_alloc ?_ _)); exact BK101.out⟩, ⟨by repeat (first | (with_reducible first | exact HB.out | apply below_alloc | apply pw_below_drewN | apply below_drew1 | refine below_set ?_ GE101.out) | exact HB.out)⟩⟩
              · rw [if_neg c9] at H
                exact absurd H (by simp)
            · rw [if_neg c8] at H
              have c8b0 : decide (x3_2 < (l0_2.length : Int)) = false := decide_eq_false c8
              clear c8
              obtain rfl := Option.some.inj H
              have hcz13_0 : wr.cell? ⟨gb101, 0, none⟩ = some (.string a0_0) := (blk_cell BK101.out 0).trans rfl
              have hcz13_1 : wr.cell? ⟨gb101, 1, none⟩ = some (.int .i64 a0_1) := (blk_cell BK101.out 1).trans rfl
              have hcz13_2 : wr.cell? ⟨gb101, 2, none⟩ = some (.slice A0_2 l0_2.length c0_2) := (blk_cell BK101.out 2).trans rfl
              have hfz13_0 := blk_frozen BK101.out 0
              have hfz13_1 := blk_frozen BK101.out 1
              have hfz13_2 := blk_frozen BK101.out 2
              go_wp2
              go_ret
              exact ⟨by first | rfl | (simp [errW_none, errW_some] <;> rfl) | (simp [*, errW_none, errW_some] <;> rfl), by repeat (first | (with_reducible first | exact HB.out | apply below_alloc | apply pw_below_drewN | apply below_drew1 | refine below_set ?_ GE101.out) | exact HB.out)⟩

end Go.Proofs.Ytmifoihfpjomaaa.F

-- AudM
namespace Go.Proofs.Ytmifoihfpjomaaa.F
open Go Go.RowKit Go.Proofs.YtmifoihfpjomaaaW.PrintWords Go.Proofs.YtmifoihfpjomaaaW.PrintLast Go.Proofs.YtmifoihfpjomaaaW.PrintMore Go.Proofs.YtmifoihfpjomaaaM Go.Proofs.YtmifoihfpjomaaaR
attribute [local go_sem] max2_int min2_int max_two min_two
set_option linter.unusedSimpArgs false
set_option linter.unusedVariables false
set_option maxRecDepth 100000
abbrev En := S36
def goodP (e : En) : Bool := decide (1 ≤ e.f0 ∧ e.f0 ≤ 2147483648 ∧ 0 ≤ e.f1 ∧ e.f1 ≤ 1099511627776 ∧ 0 ≤ e.f2 ∧ e.f2 ≤ 100 ∧ e.f3.size ≤ 32 ∧ 0 ≤ e.f4 ∧ e.f4 ≤ 100)
theorem good_f (e : En) : audit_good.f e.f0 e.f1 e.f2 e.f3 e.f4 = some (goodP e) := by
  unfold audit_good.f goodP
  repeat' split
  all_goals first
    | exact congrArg some (decide_eq_decide.2 (by omega))
    | exact congrArg some (decide_eq_false (by omega)).symm
theorem rgood_f (e : En) : strongroomref13_Good.f e.f0 e.f1 e.f2 e.f3 e.f4 = some (goodP e) := by
  unfold strongroomref13_Good.f goodP
  repeat' split
  all_goals first
    | exact congrArg some (decide_eq_decide.2 (by omega))
    | exact congrArg some (decide_eq_false (by omega)).symm
def mayL (first : Int) : List En → Bool
  | [] => true
  | e :: l => goodP e && (decide (e.f0 = first) && mayL (first + 1) l)
def mayP (a : ByteArray) (last : Int) (l : List En) : Bool := decide (a.size = 32 ∧ 0 ≤ last ∧ last ≤ 2147483648 ∧ (l.length : Int) = min last 8) && mayL (last - (l.length : Int) + 1) l
theorem rd_mid (pre suf : List En) (e : En) : rd_T36 (pre ++ e :: suf) (pre.length : Int) = e := by
  unfold rd_T36; simp [List.getD]
theorem may_l0 (a : ByteArray) (last : Int) (l : List En) (h0 : 0 ≤ last) (h1 : last ≤ 2147483648) (hn : l.length ≤ 8) : ∀ (suf pre : List En) (k : Nat), l = pre ++ suf → suf.length + 1 ≤ k →
    audit_May.l0 k l (l.length : Int) (pre.length : Int) a last l = some (mayL (last - (l.length : Int) + 1 + (pre.length : Int)) suf) := by
  intro suf
  induction suf with
  | nil =>
    intro pre k hp hk
    obtain ⟨k, rfl⟩ : ∃ m, k = m + 1 := ⟨k - 1, by omega⟩
    have : pre.length = l.length := by rw [hp]; simp
    simp only [audit_May.l0, mayL]
    rw [if_neg (by omega)]
  | cons e suf ih =>
    intro pre k hp hk
    obtain ⟨k, rfl⟩ : ∃ m, k = m + 1 := ⟨k - 1, by simp at hk; omega⟩
    have hlen : pre.length + (suf.length + 1) = l.length := by rw [hp]; simp
    have hrd : rd_T36 l (pre.length : Int) = e := by rw [hp]; exact rd_mid pre suf e
    simp only [audit_May.l0, mayL]
    rw [if_pos (by omega), if_pos (by omega), if_pos (by omega), hrd, good_f, obs]
    cases hg : goodP e with
    | false => rw [if_neg (by simp)]; simp
    | true =>
      rw [if_pos rfl, w64 (x := last - (l.length : Int)) (by omega) (by omega), w64 (x := last - (l.length : Int) + (pre.length : Int)) (by omega) (by omega), w64 (x := last - (l.length : Int) + (pre.length : Int) + 1) (by omega) (by omega)]
      by_cases he : e.f0 = last - (l.length : Int) + (pre.length : Int) + 1
      · rw [if_pos he, w64 (x := (pre.length : Int) + 1) (by omega) (by omega), decide_eq_true (show e.f0 = last - (l.length : Int) + 1 + (pre.length : Int) by omega)]
        have := ih (pre ++ [e]) k (by rw [hp]; simp) (by simp at hk; omega)
        rw [show (((pre ++ [e]).length : Nat) : Int) = (pre.length : Int) + 1 from by simp] at this
        rw [this]
        simp [Int.add_assoc]
      · rw [if_neg he, decide_eq_false (show ¬ e.f0 = last - (l.length : Int) + 1 + (pre.length : Int) by omega)]
        simp
theorem rmay_l0 (a : ByteArray) (last : Int) (l : List En) (h0 : 0 ≤ last) (h1 : last ≤ 2147483648) (hn : l.length ≤ 8) : ∀ (suf pre : List En) (k : Nat), l = pre ++ suf → suf.length + 1 ≤ k →
    strongroomref13_May.l0 k (l.length : Int) (pre.length : Int) a last l = some (mayL (last - (l.length : Int) + 1 + (pre.length : Int)) suf) := by
  intro suf
  induction suf with
  | nil =>
    intro pre k hp hk
    obtain ⟨k, rfl⟩ : ∃ m, k = m + 1 := ⟨k - 1, by omega⟩
    have : pre.length = l.length := by rw [hp]; simp
    simp only [strongroomref13_May.l0, mayL]
    rw [if_neg (by omega)]
  | cons e suf ih =>
    intro pre k hp hk
    obtain ⟨k, rfl⟩ : ∃ m, k = m + 1 := ⟨k - 1, by simp at hk; omega⟩
    have hlen : pre.length + (suf.length + 1) = l.length := by rw [hp]; simp
    have hrd : rd_T36 l (pre.length : Int) = e := by rw [hp]; exact rd_mid pre suf e
    simp only [strongroomref13_May.l0, mayL]
    rw [if_pos (by omega), if_pos (by omega), if_pos (by omega), hrd, rgood_f, obs]
    cases hg : goodP e with
    | false => rw [if_neg (by simp)]; simp
    | true =>
      rw [if_pos rfl, w64 (x := last - (l.length : Int)) (by omega) (by omega), w64 (x := last - (l.length : Int) + 1) (by omega) (by omega), w64 (x := last - (l.length : Int) + 1 + (pre.length : Int)) (by omega) (by omega)]
      by_cases he : e.f0 = last - (l.length : Int) + 1 + (pre.length : Int)
      · rw [if_pos he, w64 (x := (pre.length : Int) + 1) (by omega) (by omega), decide_eq_true he]
        have := ih (pre ++ [e]) k (by rw [hp]; simp) (by simp at hk; omega)
        rw [show (((pre ++ [e]).length : Nat) : Int) = (pre.length : Int) + 1 from by simp] at this
        rw [this]
        simp [Int.add_assoc]
      · rw [if_neg he, decide_eq_false he]
        simp
theorem may_f (a : ByteArray) (last : Int) (l : List En) (k : Nat) (hk : 12 ≤ k) : audit_May.f k a last l = some (mayP a last l) := by
  obtain ⟨k, rfl⟩ : ∃ m, k = m + 1 := ⟨k - 1, by omega⟩
  unfold audit_May.f mayP
  by_cases h0 : (a.size : Int) = 32
  · rw [if_pos h0]
    by_cases h1 : last < 0
    · rw [if_pos h1, decide_eq_false (by omega)]; simp [audit_May.j0]
    · rw [if_neg h1]
      by_cases h2 : last > 2147483648
      · rw [if_pos h2, decide_eq_false (by omega)]; simp [audit_May.j0]
      · rw [if_neg h2]
        have hmn : mn last 8 = min last 8 := by unfold mn; split <;> omega
        simp only [audit_May.j0, hmn]
        by_cases h3 : (l.length : Int) = min last 8
        · rw [if_neg (by simpa using h3), decide_eq_true (by omega), Bool.true_and]
          have := may_l0 a last l (by omega) (by omega) (by omega) l [] k rfl (by omega)
          simpa using this
        · rw [if_pos (by simpa using h3), decide_eq_false (by omega)]; rfl
  · rw [if_neg h0, decide_eq_false (by omega)]; simp [audit_May.j0]
theorem rmay_f (a : ByteArray) (last : Int) (l : List En) (k : Nat) (hk : 13 ≤ k) : strongroomref13_May.f k a last l = some (mayP a last l) := by
  obtain ⟨k, rfl⟩ : ∃ m, k = m + 2 := ⟨k - 2, by omega⟩
  unfold strongroomref13_May.f mayP
  by_cases h0 : (a.size : Int) = 32
  · rw [if_pos h0]
    by_cases h1 : last < 0
    · rw [if_pos h1, decide_eq_false (by omega)]; simp [strongroomref13_May.j0]
    · rw [if_neg h1]
      by_cases h2 : last > 2147483648
      · rw [decide_eq_true h2, decide_eq_false (show ¬ (a.size = 32 ∧ 0 ≤ last ∧ last ≤ 2147483648 ∧ (l.length : Int) = min last 8) by omega)]; simp [strongroomref13_May.j0]
      · rw [decide_eq_false h2]
        simp only [strongroomref13_May.j0, strongroomref13_May.j1]
        rw [if_neg (by simp)]
        have key : ∀ n : Int, n = min last 8 → (if (l.length : Int) = n then strongroomref13_May.l0 k n 0 a last l else some false) = some (decide (a.size = 32 ∧ 0 ≤ last ∧ last ≤ 2147483648 ∧ (l.length : Int) = min last 8) && mayL (last - (l.length : Int) + 1) l) := by
          intro n hn
          by_cases h3 : (l.length : Int) = n
          · rw [if_pos h3, decide_eq_true (by omega), Bool.true_and]
            have := rmay_l0 a last l (by omega) (by omega) (by omega) l [] k rfl (by omega)
            rw [h3] at this
            rw [h3]
            simpa using this
          · rw [if_neg h3, decide_eq_false (by omega)]; rfl
        by_cases h4 : last > 8
        · rw [if_pos h4]; exact key 8 (by omega)
        · rw [if_neg h4]; exact key last (by omega)
  · rw [if_neg h0, decide_eq_false (by omega)]; simp [strongroomref13_May.j0]
/-- an entry's bytes -/
def bytesE (e : En) : List Int := putL e.f0.toNat ++ putL e.f1.toNat ++ putL e.f2.toNat ++ textL e.f3 ++ putL e.f4.toNat
structure GoodR (e : En) : Prop where
  s0 : 1 ≤ e.f0
  s1 : e.f0 ≤ 2147483648
  t0 : 0 ≤ e.f1
  t1 : e.f1 ≤ 1099511627776
  k0 : 0 ≤ e.f2
  k1 : e.f2 ≤ 100
  p : e.f3.size ≤ 32
  e0 : 0 ≤ e.f4
  e1 : e.f4 ≤ 100
theorem goodR {e : En} (h : goodP e = true) : GoodR e := by
  have := of_decide_eq_true h
  obtain ⟨h1, h2, h3, h4, h5, h6, h7, h8, h9⟩ := this
  exact ⟨h1, h2, h3, h4, h5, h6, h7, h8, h9⟩
theorem textL_bytes (s : ByteArray) : ∀ x ∈ textL s, 0 ≤ x ∧ x < 256 := by
  intro x hx
  unfold textL at hx
  rcases List.mem_append.1 hx with hx | hx
  · exact putL_bytes _ x hx
  · exact bytesOf_byte _ x hx
theorem bytesE_bytes (e : En) : bytes8' (bytesE e) := by
  intro x hx
  unfold bytesE at hx
  simp only [List.mem_append] at hx
  rcases hx with (((hx | hx) | hx) | hx) | hx
  · exact putL_bytes _ x hx
  · exact putL_bytes _ x hx
  · exact putL_bytes _ x hx
  · exact textL_bytes _ x hx
  · exact putL_bytes _ x hx
theorem bytesE_len {e : En} (h : goodP e = true) : (bytesE e).length ≤ 100 := by
  have hg := goodR h
  have a := putL_ten (n := e.f0.toNat) (by have := hg.s1; omega)
  have b := putL_ten (n := e.f1.toNat) (by have := hg.t1; omega)
  have c := putL_ten (n := e.f2.toNat) (by have := hg.k1; omega)
  have d := putL_ten (n := e.f3.size) (by have := hg.p; omega)
  have f := putL_ten (n := e.f4.toNat) (by have := hg.e1; omega)
  have hp := hg.p
  unfold bytesE textL
  simp only [List.length_append, bytesOf_length]
  omega
theorem nat_wrap {x : Int} (h0 : 0 ≤ x) (h1 : x ≤ 9223372036854775807) : IntKind.u64.wrap x = ((x.toNat : Nat) : Int) := by
  rw [u64_wraps _ h0 (by omega)]; omega
theorem putT_f (k : Nat) (hk : 10 ≤ k) (l : List Int) (s : ByteArray) (hl : l.length ≤ 10000000) (hs : s.size ≤ 100000) : num_PutText.f k l s = some (l ++ textL s) := by
  unfold num_PutText.f
  have := putL_ten (n := s.size) (by omega)
  rw [own_f l (by omega), obs, u64_wraps _ (by omega) (by omega), lay_f k s.size l hk (by omega) (by omega), obs, if_pos (by simp; omega)]
  simp [textL]
theorem bytes_f (e : En) (h : goodP e = true) (k : Nat) (hk : 10 ≤ k) : audit_bytes.f k e.f0 e.f1 e.f2 e.f3 e.f4 = some (strOfNums (bytesE e)) := by
  have hg := goodR h
  have a := putL_ten (n := e.f0.toNat) (by have := hg.s1; omega)
  have b := putL_ten (n := e.f1.toNat) (by have := hg.t1; omega)
  have c := putL_ten (n := e.f2.toNat) (by have := hg.k1; omega)
  have d := putL_ten (n := e.f3.size) (by have := hg.p; omega)
  have hp := hg.p
  unfold audit_bytes.f
  rw [nat_wrap (x := e.f0) (by have := hg.s0; omega) (by have := hg.s1; omega), nat_wrap (x := e.f1) hg.t0 (by have := hg.t1; omega), nat_wrap (x := e.f2) hg.k0 (by have := hg.k1; omega), nat_wrap (x := e.f4) hg.e0 (by have := hg.e1; omega)]
  rw [put_f k _ _ hk (by have := hg.s1; omega) (by simp), obs, put_f k _ _ hk (by have := hg.t1; omega) (by simp; omega), obs, put_f k _ _ hk (by have := hg.k1; omega) (by simp; omega), obs]
  rw [putT_f k hk _ _ (by simp; omega) (by omega), obs, put_f k _ _ hk (by have := hg.e1; omega) (by simp [textL, bytesOf_length]; omega), obs]
  simp [bytesE]
/-- the digest of entries behind an anchor -/
def chainE (d : List Int) (l : List En) : List Int := l.foldl (fun k e => sealL k (bytesE e)) d
theorem chainE_snoc (d : List Int) (l : List En) (e : En) : chainE d (l ++ [e]) = sealL (chainE d l) (bytesE e) := by simp [chainE]
theorem chainE_bytes {d : List Int} (hd : bytes8' d) : ∀ l, bytes8' (chainE d l) := by
  intro l
  induction l generalizing d with
  | nil => exact hd
  | cons e l ih => exact ih (sealL_bytes _ _)
theorem chainE_len {d : List Int} (hd : d.length ≤ 1000) : ∀ l, (chainE d l).length ≤ 1000 := by
  intro l
  induction l generalizing d with
  | nil => exact hd
  | cons e l ih => exact ih (by rw [sealL_len]; omega)
theorem mayL_good {first : Int} {l : List En} (h : mayL first l = true) : ∀ e ∈ l, goodP e = true := by
  induction l generalizing first with
  | nil => intro e he; simp at he
  | cons x l ih =>
    simp only [mayL, Bool.and_eq_true] at h
    intro e he
    rcases List.mem_cons.1 he with rfl | he
    · exact h.1
    · exact ih h.2.2 e he
structure MayR (a : ByteArray) (last : Int) (l : List En) : Prop where
  sz : a.size = 32
  l0 : 0 ≤ last
  l1 : last ≤ 2147483648
  len : (l.length : Int) = min last 8
  good : ∀ e ∈ l, goodP e = true
  seq : mayL (last - (l.length : Int) + 1) l = true
theorem mayR {a : ByteArray} {last : Int} {l : List En} (h : mayP a last l = true) : MayR a last l := by
  unfold mayP at h
  simp only [Bool.and_eq_true, decide_eq_true_eq] at h
  obtain ⟨⟨h1, h2, h3, h4⟩, h5⟩ := h
  exact ⟨h1, h2, h3, h4, mayL_good h5, h5⟩
theorem may_c (a : ByteArray) (last : Int) (A : Option Addr) (c : Nat) (l : List En) (w : World) (hr : Kd.C k36 w A l.length l) (hc : l.length ≤ c) :
    Calls Try.prog 15 #[.agg #[.string a, .int .i64 last, .slice A l.length c]] w (Tells w (Is (.bool (mayP a last l)))) :=
  tells_is ((audit_May.calls 12 a last A c l _ w hr hc (may_f a last l 12 (by omega))).mono fun _ _ h => h)
theorem rmay_c (a : ByteArray) (last : Int) (A : Option Addr) (c : Nat) (l : List En) (w : World) (hr : Kd.C k36 w A l.length l) (hc : l.length ≤ c) :
    Calls Try.prog 17 #[.agg #[.string a, .int .i64 last, .slice A l.length c]] w (Tells w (Is (.bool (mayP a last l)))) :=
  tells_is ((strongroomref13_May.calls 13 a last A c l _ w hr hc (rmay_f a last l 13 (by omega))).mono fun _ _ h => h)
theorem good_c (s t k : Int) (p : ByteArray) (x : Int) (w : World) : Calls Try.prog 31 #[.agg #[.int .i64 s, .int .i64 t, .int .i64 k, .string p, .int .i64 x]] w (Tells w (Is (.bool (goodP ⟨s, t, k, p, x⟩)))) :=
  tells_is ((audit_good.calls _ _ _ _ _ _ w (good_f ⟨s, t, k, p, x⟩)).mono fun _ _ h => h)
theorem bytes_c (s t k : Int) (p : ByteArray) (x : Int) (h : goodP ⟨s, t, k, p, x⟩ = true) (w : World) : Calls Try.prog 32 #[.agg #[.int .i64 s, .int .i64 t, .int .i64 k, .string p, .int .i64 x]] w (Tells w (Is (.string (strOfNums (bytesE ⟨s, t, k, p, x⟩))))) :=
  tells_is ((audit_bytes.calls 10 _ _ _ _ _ _ w (bytes_f ⟨s, t, k, p, x⟩ h 10 (by omega))).mono fun _ _ h => h)
end Go.Proofs.Ytmifoihfpjomaaa.F

-- NumP
namespace Go.Proofs.Ytmifoihfpjomaaa.F
open Go Go.RowKit Go.Proofs.YtmifoihfpjomaaaW.PrintWords Go.Proofs.YtmifoihfpjomaaaW.PrintLast Go.Proofs.YtmifoihfpjomaaaW.PrintMore Go.Proofs.YtmifoihfpjomaaaM Go.Proofs.YtmifoihfpjomaaaR
set_option linter.unusedSimpArgs false
set_option linter.unusedVariables false
set_option maxRecDepth 100000
/-- bytes -/
abbrev By (l : List Int) : Prop := ∀ x ∈ l, 0 ≤ x ∧ x < 256
theorem By.drop {l : List Int} (h : By l) (m : Nat) : By (l.drop m) := fun x hx => h x (List.mem_of_mem_drop hx)
/-- a number at the head of bytes, and what is left -/
def pNum (s : List Int) : Option (Nat × List Int) := if (getS 10 s 0 1).2.2 = 0 then some ((getS 10 s 0 1).1.toNat, s.drop (getS 10 s 0 1).2.1.toNat) else none
theorem pNum_put (n : Nat) (r : List Int) (h : n < 18446744073709551616) : pNum (putL n ++ r) = some (n, r) := by
  have hp := putL_pos n
  unfold pNum
  rw [getS_put 9 n r 0 1 (two9 h) (by omega) (.inr rfl), if_pos rfl]
  congr 1
  refine Prod.ext ?_ ?_
  · show ((0 : Int) + (n : Int) * 1).toNat = n
    omega
  · show List.drop ((10 : Int) - ((9 : Nat) : Int) + ((putL n).length : Int) - 1).toNat (putL n ++ r) = r
    rw [show ((10 : Int) - ((9 : Nat) : Int) + ((putL n).length : Int) - 1).toNat = (putL n).length from by omega, List.drop_left]
theorem pNum_some {s : List Int} (hb : By s) {n : Nat} {r : List Int} (h : pNum s = some (n, r)) : n < 18446744073709551616 ∧ s = putL n ++ r := by
  have h0 : (getS 10 s 0 1).2.2 = 0 := by
    unfold pNum at h
    by_cases h0 : (getS 10 s 0 1).2.2 = 0
    · exact h0
    · rw [if_neg h0] at h; cases h
  obtain ⟨m, rest, hm, _, hl, hr⟩ := getS_ok 9 s 0 1 (by omega) hb h0
  have h2 : 2 * 128 ^ 9 = 18446744073709551616 := by decide
  rw [h2] at hm
  rw [hl, pNum_put m rest hm] at h
  have h := Option.some.inj h
  obtain ⟨rfl, rfl⟩ := Prod.mk.inj h
  exact ⟨hm, hl⟩
theorem getL_some {l : List Int} {m n : Nat} {r : List Int} (hb : By l) (hm : m ≤ l.length) (h : pNum (l.drop m) = some (n, r)) :
    getL l m = ((n : Int), ((l.length - r.length : Nat) : Int), 0) ∧ m ≤ l.length - r.length ∧ l.length - r.length ≤ l.length ∧ l.drop (l.length - r.length) = r ∧ n < 18446744073709551616 := by
  obtain ⟨hn, he⟩ := pNum_some (hb.drop m) h
  have hsp : l = l.take m ++ putL n ++ r := by rw [List.append_assoc, ← he, List.take_append_drop]
  have htl : (l.take m).length = m := by rw [List.length_take]; omega
  have hlen : l.length = m + (putL n).length + r.length := by
    have := congrArg List.length hsp
    rw [List.length_append, List.length_append, htl] at this
    exact this
  have hk : l.length - r.length = m + (putL n).length := by omega
  have hg := getL_put (l.take m) r n hn
  rw [← hsp, htl] at hg
  refine ⟨by rw [hg, hk], by omega, by omega, ?_, hn⟩
  rw [hk]
  conv => lhs; rw [hsp]
  exact List.drop_left' (by rw [List.length_append, htl])
theorem getL_none {l : List Int} {m : Nat} (hm : m ≤ l.length) (h : pNum (l.drop m) = none) : (getL l m).2.2 ≠ 0 := by
  unfold pNum at h
  unfold getL
  rw [if_neg (by omega), Int.toNat_natCast]
  simp only
  by_cases h0 : (getS 10 (l.drop m) 0 1).2.2 = 0
  · rw [if_pos h0] at h; cases h
  · rw [if_neg h0]; exact h0
theorem By.tail {a b : List Int} (h : By (a ++ b)) : By b := fun x hx => h x (List.mem_append.2 (.inr hx))
end Go.Proofs.Ytmifoihfpjomaaa.F

-- AudN
namespace Go.Proofs.Ytmifoihfpjomaaa.F
open Go Go.RowKit Go.Proofs.YtmifoihfpjomaaaW.PrintWords Go.Proofs.YtmifoihfpjomaaaW.PrintLast Go.Proofs.YtmifoihfpjomaaaW.PrintMore Go.Proofs.YtmifoihfpjomaaaM Go.Proofs.YtmifoihfpjomaaaR
set_option linter.unusedSimpArgs false
set_option linter.unusedVariables false
set_option maxRecDepth 100000
/-- a text at the head of bytes, of at most so many -/
def pText (most : Nat) (s : List Int) : Option (List Int × List Int) :=
  match pNum s with
  | some (n, r) => if n ≤ most ∧ n ≤ r.length then some (r.take n, r.drop n) else none
  | none => none
theorem pText_put (most : Nat) (t r : List Int) (h : t.length < 18446744073709551616) (hm : t.length ≤ most) : pText most (putL t.length ++ t ++ r) = some (t, r) := by
  unfold pText
  rw [List.append_assoc, pNum_put _ _ h]
  simp only
  rw [if_pos ⟨hm, by simp⟩, List.take_left, List.drop_left]
theorem pText_some {most : Nat} {s : List Int} (hb : By s) {t r : List Int} (h : pText most s = some (t, r)) : t.length ≤ most ∧ t.length < 18446744073709551616 ∧ s = putL t.length ++ t ++ r := by
  unfold pText at h
  cases hp : pNum s with
  | none => rw [hp] at h; cases h
  | some q =>
    obtain ⟨n, q⟩ := q
    rw [hp] at h
    simp only at h
    obtain ⟨hn, he⟩ := pNum_some hb hp
    by_cases hc : n ≤ most ∧ n ≤ q.length
    · rw [if_pos hc] at h
      obtain ⟨rfl, rfl⟩ := Prod.mk.inj (Option.some.inj h)
      have hl : (q.take n).length = n := by rw [List.length_take]; omega
      rw [hl, List.append_assoc, List.take_append_drop]
      exact ⟨hc.1, hn, he⟩
    · rw [if_neg hc] at h; cases h
theorem getT_some {l : List Int} {m most : Nat} {t r : List Int} (hb : By l) (hm : m ≤ l.length) (h : pText most (l.drop m) = some (t, r)) :
    getT l m most = (t, ((l.length - r.length : Nat) : Int), 0) ∧ m ≤ l.length - r.length ∧ l.length - r.length ≤ l.length ∧ l.drop (l.length - r.length) = r := by
  unfold pText at h
  cases hp : pNum (l.drop m) with
  | none => rw [hp] at h; cases h
  | some q =>
    obtain ⟨n, q⟩ := q
    rw [hp] at h
    simp only at h
    obtain ⟨hg, h1, h2, h3, hn⟩ := getL_some hb hm hp
    by_cases hc : n ≤ most ∧ n ≤ q.length
    · rw [if_pos hc] at h
      obtain ⟨rfl, rfl⟩ := Prod.mk.inj (Option.some.inj h)
      have hq : q.length ≤ l.length := by
        have := congrArg List.length h3
        rw [List.length_drop] at this
        omega
      have hdl : (q.drop n).length = q.length - n := List.length_drop ..
      have hk : l.length - (q.drop n).length = l.length - q.length + n := by rw [hdl]; omega
      refine ⟨?_, by omega, by omega, ?_⟩
      · unfold getT
        rw [hg]
        simp only
        rw [if_neg (by simp), if_neg (by omega), if_neg (by omega), hk]
        refine Prod.ext ?_ (Prod.ext ?_ rfl)
        · show (l.take (((l.length - q.length : Nat) : Int) + (n : Int)).toNat).drop ((l.length - q.length : Nat) : Int).toNat = q.take n
          rw [show (((l.length - q.length : Nat) : Int) + (n : Int)).toNat = l.length - q.length + n from by omega, Int.toNat_natCast, List.drop_take, h3, Nat.add_sub_cancel_left]
        · show ((l.length - q.length : Nat) : Int) + (n : Int) = ((l.length - q.length + n : Nat) : Int)
          omega
      · rw [hk, ← List.drop_drop, h3]
    · rw [if_neg hc] at h; cases h
theorem getT_none {l : List Int} {m most : Nat} (hb : By l) (hm : m ≤ l.length) (h : pText most (l.drop m) = none) : (getT l m most).2.2 ≠ 0 := by
  unfold pText at h
  cases hp : pNum (l.drop m) with
  | none =>
    have := getL_none hm hp
    unfold getT
    simp only
    rw [if_pos this]; exact this
  | some q =>
    obtain ⟨n, q⟩ := q
    rw [hp] at h
    simp only at h
    obtain ⟨hg, h1, h2, h3, hn⟩ := getL_some hb hm hp
    have hq : q.length ≤ l.length := by
      have := congrArg List.length h3
      rw [List.length_drop] at this
      omega
    by_cases hc : n ≤ most ∧ n ≤ q.length
    · rw [if_pos hc] at h; cases h
    · unfold getT
      rw [hg]
      simp only
      rw [if_neg (by simp)]
      by_cases h4 : max (most : Int) 0 < (n : Int)
      · rw [if_pos h4]; simp
      · rw [if_neg h4, if_pos (by omega)]; simp
/-- a number that is at most 2^62 -/
def capN (n : Nat) : Int := min (n : Int) 4611686018427387904
/-- what a reader is behind a number: what stands there, if it still reads -/
def numQ (s : Option (List Int)) : Int × Option (List Int) :=
  match s.bind pNum with
  | some (n, r) => (capN n, some r)
  | none => (0, none)
def textQ (most : Nat) (s : Option (List Int)) : List Int × Option (List Int) :=
  match s.bind (pText most) with
  | some (t, r) => (t, some r)
  | none => ([], none)
def entQ (s : Option (List Int)) : En × Option (List Int) :=
  (⟨(numQ s).1, (numQ (numQ s).2).1, (numQ (numQ (numQ s).2).2).1, strOfNums (textQ 32 (numQ (numQ (numQ s).2).2).2).1, (numQ (textQ 32 (numQ (numQ (numQ s).2).2).2).2).1⟩, (numQ (textQ 32 (numQ (numQ (numQ s).2).2).2).2).2)
def entsQ : Nat → Option (List Int) → List En × Option (List Int)
  | 0, s => ([], s)
  | k + 1, s => ((entsQ k s).1 ++ [(entQ (entsQ k s).2).1], (entQ (entsQ k s).2).2)
theorem entsQ_len (k : Nat) (s : Option (List Int)) : (entsQ k s).1.length = k := by
  induction k with
  | zero => rfl
  | succ k ih => simp [entsQ, ih]
theorem numQ_none : numQ none = (0, none) := rfl
theorem entsQ_none {s : Option (List Int)} : ∀ {i k : Nat}, i ≤ k → (entsQ i s).2 = none → (entsQ k s).2 = none := by
  intro i k h
  induction h with
  | refl => exact id
  | step h ih =>
    intro h0
    have := ih h0
    simp only [entsQ]
    rw [this]
    rfl
/-- the audit of some bytes -/
def decP (l : List Int) : Option (ByteArray × Int × List En) :=
  let a := textQ 32 (some l)
  let b := numQ a.2
  let m := numQ b.2
  let r := entsQ m.1.toNat m.2
  if m.2 ≠ none ∧ m.1 ≤ 8 ∧ r.2 = some [] ∧ mayP (strOfNums a.1) b.1 r.1 = true then some (strOfNums a.1, b.1, r.1) else none
/-- an audit's bytes -/
def encP (a : ByteArray) (last : Int) (l : List En) : List Int := textL a ++ putL last.toNat ++ putL l.length ++ l.flatMap bytesE
theorem numQ_put (n : Nat) (r : List Int) (h : n ≤ 4611686018427387904) : numQ (some (putL n ++ r)) = ((n : Int), some r) := by
  unfold numQ
  rw [Option.bind_some, pNum_put n r (by omega)]
  simp only [capN]
  rw [show min (n : Int) 4611686018427387904 = (n : Int) from by omega]
theorem textQ_put (most : Nat) (t : ByteArray) (r : List Int) (h : t.size ≤ most) (hm : most ≤ 1000) : textQ most (some (textL t ++ r)) = (bytesOf t, some r) := by
  unfold textQ textL
  have := pText_put most (bytesOf t) r (by rw [bytesOf_length]; omega) (by rw [bytesOf_length]; exact h)
  rw [bytesOf_length] at this
  rw [Option.bind_some, this]
theorem numQ_some {s : Option (List Int)} (hb : ∀ l, s = some l → By l) {r : List Int} (h : (numQ s).2 = some r) : ∃ n : Nat, (numQ s).1 = capN n ∧ s = some (putL n ++ r) := by
  unfold numQ at h ⊢
  cases s with
  | none => cases h
  | some l =>
    rw [Option.bind_some] at h ⊢
    cases hp : pNum l with
    | none => rw [hp] at h; cases h
    | some q =>
      obtain ⟨n, q⟩ := q
      rw [hp] at h
      simp only at h
      obtain rfl := Option.some.inj h
      obtain ⟨-, he⟩ := pNum_some (hb l rfl) hp
      exact ⟨n, rfl, by rw [he]⟩
theorem textQ_some {most : Nat} {s : Option (List Int)} (hb : ∀ l, s = some l → By l) {r : List Int} (h : (textQ most s).2 = some r) : (textQ most s).1.length ≤ most ∧ By (textQ most s).1 ∧ s = some (putL (textQ most s).1.length ++ (textQ most s).1 ++ r) := by
  unfold textQ at h ⊢
  cases s with
  | none => cases h
  | some l =>
    rw [Option.bind_some] at h ⊢
    cases hp : pText most l with
    | none => rw [hp] at h; cases h
    | some q =>
      obtain ⟨t, q⟩ := q
      rw [hp] at h
      simp only at h
      obtain rfl := Option.some.inj h
      obtain ⟨h1, -, he⟩ := pText_some (hb l rfl) hp
      refine ⟨h1, fun x hx => hb l rfl x ?_, by rw [he]⟩
      rw [he]; simp [hx]
theorem capN_id {n : Nat} (h : capN n ≤ 4611686018427387903) : capN n = (n : Int) := by unfold capN at *; omega
theorem entQ_put {e : En} (h : goodP e = true) (r : List Int) : entQ (some (bytesE e ++ r)) = (e, some r) := by
  have hg := goodR h
  obtain ⟨f0, f1, f2, f3, f4⟩ := e
  have h0 := hg.s0; have h1 := hg.s1; have h2 := hg.t0; have h3 := hg.t1; have h4 := hg.k0; have h5 := hg.k1; have h6 := hg.p; have h7 := hg.e0; have h8 := hg.e1
  simp only at h0 h1 h2 h3 h4 h5 h6 h7 h8
  unfold entQ bytesE
  simp only [List.append_assoc]
  rw [numQ_put _ _ (by omega)]
  simp only
  rw [numQ_put _ _ (by omega)]
  simp only
  rw [numQ_put _ _ (by omega)]
  simp only
  rw [textQ_put 32 f3 _ h6 (by omega)]
  simp only
  rw [numQ_put _ _ (by omega), str_bytesOf]
  simp only
  rw [show ((f0.toNat : Nat) : Int) = f0 from by omega, show ((f1.toNat : Nat) : Int) = f1 from by omega, show ((f2.toNat : Nat) : Int) = f2 from by omega, show ((f4.toNat : Nat) : Int) = f4 from by omega]
theorem entQ_some {s : Option (List Int)} (hb : ∀ l, s = some l → By l) {r : List Int} (h : (entQ s).2 = some r) (hg : goodP (entQ s).1 = true) : s = some (bytesE (entQ s).1 ++ r) := by
  have hq := goodR hg
  have q0 := hq.s1; have q1 := hq.t1; have q2 := hq.k1; have q4 := hq.e1
  unfold entQ at h q0 q1 q2 q4 ⊢
  simp only at h q0 q1 q2 q4 ⊢
  obtain ⟨s1, hs1⟩ : ∃ s1, s1 = numQ s := ⟨_, rfl⟩
  obtain ⟨s2, hs2⟩ : ∃ s2, s2 = numQ s1.2 := ⟨_, rfl⟩
  obtain ⟨s3, hs3⟩ : ∃ s3, s3 = numQ s2.2 := ⟨_, rfl⟩
  obtain ⟨s4, hs4⟩ : ∃ s4, s4 = textQ 32 s3.2 := ⟨_, rfl⟩
  obtain ⟨s5, hs5⟩ : ∃ s5, s5 = numQ s4.2 := ⟨_, rfl⟩
  rw [← hs1, ← hs2, ← hs3, ← hs4, ← hs5] at h q4 ⊢
  rw [← hs1, ← hs2, ← hs3] at q2
  rw [← hs1, ← hs2] at q1
  rw [← hs1] at q0
  have k4 : ∃ r4, s4.2 = some r4 := by
    cases h4 : s4.2 with
    | none => rw [h4] at hs5; rw [hs5] at h; cases h
    | some r4 => exact ⟨r4, rfl⟩
  obtain ⟨r4, k4⟩ := k4
  have k3 : ∃ r3, s3.2 = some r3 := by
    cases h3 : s3.2 with
    | none => rw [h3] at hs4; rw [hs4] at k4; cases k4
    | some r3 => exact ⟨r3, rfl⟩
  obtain ⟨r3, k3⟩ := k3
  have k2 : ∃ r2, s2.2 = some r2 := by
    cases h2 : s2.2 with
    | none => rw [h2] at hs3; rw [hs3] at k3; cases k3
    | some r2 => exact ⟨r2, rfl⟩
  obtain ⟨r2, k2⟩ := k2
  have k1 : ∃ r1, s1.2 = some r1 := by
    cases h1 : s1.2 with
    | none => rw [h1] at hs2; rw [hs2] at k2; cases k2
    | some r1 => exact ⟨r1, rfl⟩
  obtain ⟨r1, k1⟩ := k1
  obtain ⟨n1, e1, rfl⟩ := numQ_some hb (by rw [← hs1]; exact k1)
  have b1 : By r1 := (hb _ rfl).tail
  rw [k1] at hs2
  obtain ⟨n2, e2, f2⟩ := numQ_some (s := some r1) (fun l hl => by cases hl; exact b1) (by rw [← hs2]; exact k2)
  obtain rfl := Option.some.inj f2
  have b2 : By r2 := b1.tail
  rw [k2] at hs3
  obtain ⟨n3, e3, f3⟩ := numQ_some (s := some r2) (fun l hl => by cases hl; exact b2) (by rw [← hs3]; exact k3)
  obtain rfl := Option.some.inj f3
  have b3 : By r3 := b2.tail
  rw [k3] at hs4
  obtain ⟨l4, y4, f4⟩ := textQ_some (most := 32) (s := some r3) (fun l hl => by cases hl; exact b3) (by rw [← hs4]; exact k4)
  rw [← hs4] at l4 y4 f4
  obtain rfl := Option.some.inj f4
  have b4 : By r4 := b3.tail
  rw [k4] at hs5
  obtain ⟨n5, e5, f5⟩ := numQ_some (s := some r4) (fun l hl => by cases hl; exact b4) (by rw [← hs5]; exact h)
  obtain rfl := Option.some.inj f5
  rw [← hs1] at e1
  rw [← hs2] at e2
  rw [← hs3] at e3
  rw [← hs5] at e5
  rw [e1] at q0 ⊢
  rw [e2] at q1 ⊢
  rw [e3] at q2 ⊢
  rw [e5] at q4 ⊢
  rw [capN_id (n := n1) (by omega), capN_id (n := n2) (by omega), capN_id (n := n3) (by omega), capN_id (n := n5) (by omega)]
  unfold bytesE textL
  simp only [Int.toNat_natCast, List.append_assoc]
  rw [str_size, bytesOf_str y4]
theorem entsQ_put : ∀ (l : List En), (∀ e ∈ l, goodP e = true) → ∀ (pre : List En) (r : List Int) (s : Option (List Int)), entsQ pre.length s = (pre, some (l.flatMap bytesE ++ r)) → entsQ (pre ++ l).length s = (pre ++ l, some r) := by
  intro l
  induction l with
  | nil => intro _ pre r s h; simpa using h
  | cons e l ih =>
    intro hg pre r s h
    have h1 := entQ_put (hg e (by simp)) (l.flatMap bytesE ++ r)
    have := ih (fun x hx => hg x (by simp [hx])) (pre ++ [e]) r s (by
      rw [List.length_append, List.length_singleton]
      simp only [entsQ]
      rw [h]
      simp only [List.flatMap_cons, List.append_assoc]
      rw [h1])
    simpa using this
theorem entsQ_some {s : Option (List Int)} (hb : ∀ l, s = some l → By l) : ∀ (k : Nat) {r : List Int}, (entsQ k s).2 = some r → (∀ e ∈ (entsQ k s).1, goodP e = true) → s = some ((entsQ k s).1.flatMap bytesE ++ r) := by
  intro k
  induction k with
  | zero => intro r h _; simpa [entsQ] using h
  | succ k ih =>
    intro r h hg
    simp only [entsQ] at h hg ⊢
    cases h1 : (entsQ k s).2 with
    | none => rw [h1] at h; cases h
    | some r1 =>
      have h2 := ih h1 (fun e he => hg e (by simp [he]))
      have hb1 : By r1 := (hb _ h2).tail
      have h3 := entQ_some (s := (entsQ k s).2) (fun l hl => by rw [h1] at hl; cases hl; exact hb1) h (hg _ (by simp))
      rw [h1] at h3
      have h3 := Option.some.inj h3
      conv => lhs; rw [h2, h3]
      rw [List.flatMap_append]
      simp
theorem decP_enc {a : ByteArray} {last : Int} {l : List En} (h : mayP a last l = true) : decP (encP a last l) = some (a, last, l) := by
  have r := mayR h
  have r0 := r.l0; have r1 := r.l1; have r2 := r.len; have r3 := r.sz
  have hn : l.length ≤ 8 := by omega
  unfold decP encP
  simp only [List.append_assoc]
  rw [textQ_put 32 a _ (by omega) (by omega)]
  simp only
  rw [numQ_put _ _ (by omega)]
  simp only
  rw [numQ_put _ _ (by omega)]
  simp only
  have h1 := entsQ_put l r.good [] [] (some (l.flatMap bytesE)) (by simp [entsQ])
  simp only [List.nil_append] at h1
  rw [Int.toNat_natCast, h1, str_bytesOf, show ((last.toNat : Nat) : Int) = last from by omega]
  rw [if_pos ⟨by simp, by omega, rfl, h⟩]
theorem decP_some {l : List Int} (hb : By l) {a : ByteArray} {last : Int} {es : List En} (h : decP l = some (a, last, es)) : mayP a last es = true ∧ l = encP a last es := by
  unfold decP at h
  simp only at h
  obtain ⟨s1, hs1⟩ : ∃ s1, s1 = textQ 32 (some l) := ⟨_, rfl⟩
  obtain ⟨s2, hs2⟩ : ∃ s2, s2 = numQ s1.2 := ⟨_, rfl⟩
  obtain ⟨s3, hs3⟩ : ∃ s3, s3 = numQ s2.2 := ⟨_, rfl⟩
  rw [← hs1, ← hs2, ← hs3] at h
  obtain ⟨s4, hs4⟩ : ∃ s4, s4 = entsQ s3.1.toNat s3.2 := ⟨_, rfl⟩
  rw [← hs4] at h
  by_cases hc : s3.2 ≠ none ∧ s3.1 ≤ 8 ∧ s4.2 = some [] ∧ mayP (strOfNums s1.1) s2.1 s4.1 = true
  · rw [if_pos hc] at h
    obtain ⟨c1, c2, c3, c4⟩ := hc
    have h := Option.some.inj h
    obtain ⟨ha, hq⟩ := Prod.mk.inj h
    obtain ⟨hb2, hc2⟩ := Prod.mk.inj hq
    subst ha hb2 hc2
    have r := mayR c4
    have r0 := r.l0; have r1 := r.l1
    have k3 : ∃ r3, s3.2 = some r3 := by
      cases h3 : s3.2 with
      | none => exact absurd h3 c1
      | some r3 => exact ⟨r3, rfl⟩
    obtain ⟨r3, k3⟩ := k3
    have k2 : ∃ r2, s2.2 = some r2 := by
      cases h2 : s2.2 with
      | none => rw [h2] at hs3; rw [hs3] at k3; cases k3
      | some r2 => exact ⟨r2, rfl⟩
    obtain ⟨r2, k2⟩ := k2
    have k1 : ∃ r1, s1.2 = some r1 := by
      cases h1 : s1.2 with
      | none => rw [h1] at hs2; rw [hs2] at k2; cases k2
      | some r1 => exact ⟨r1, rfl⟩
    obtain ⟨r1, k1⟩ := k1
    obtain ⟨l1, y1, f1⟩ := textQ_some (most := 32) (s := some l) (fun m hm => by cases hm; exact hb) (by rw [← hs1]; exact k1)
    rw [← hs1] at l1 y1 f1
    have f1 := Option.some.inj f1
    have b1 : By r1 := by rw [f1] at hb; exact hb.tail
    rw [k1] at hs2
    obtain ⟨n2, e2, f2⟩ := numQ_some (s := some r1) (fun m hm => by cases hm; exact b1) (by rw [← hs2]; exact k2)
    obtain rfl := Option.some.inj f2
    have b2 : By r2 := b1.tail
    rw [k2] at hs3
    obtain ⟨n3, e3, f3⟩ := numQ_some (s := some r2) (fun m hm => by cases hm; exact b2) (by rw [← hs3]; exact k3)
    obtain rfl := Option.some.inj f3
    have b3 : By r3 := b2.tail
    have f4 := entsQ_some (s := s3.2) (fun m hm => by rw [k3] at hm; cases hm; exact b3) s3.1.toNat (r := []) (by rw [← hs4]; exact c3) (by rw [← hs4]; exact r.good)
    rw [← hs4, k3, List.append_nil] at f4
    have f4 := Option.some.inj f4
    rw [← hs2] at e2
    rw [← hs3] at e3
    have hln : s4.1.length = s3.1.toNat := by rw [hs4]; exact entsQ_len _ _
    have c5 : capN n3 = (n3 : Int) := capN_id (by rw [← e3]; omega)
    have c6 : capN n2 = (n2 : Int) := capN_id (by rw [← e2]; omega)
    refine ⟨c4, ?_⟩
    unfold encP textL
    rw [f1, f4, e2, c6, hln, e3, c5, str_size, bytesOf_str y1]
    simp only [Int.toNat_natCast, List.append_assoc]
  · rw [if_neg hc] at h; cases h
end Go.Proofs.Ytmifoihfpjomaaa.F

-- MacL
namespace Go.Proofs.Ytmifoihfpjomaaa.F
open Go Go.RowKit Go.Proofs.YtmifoihfpjomaaaW.PrintWords Go.Proofs.YtmifoihfpjomaaaW.PrintLast Go.Proofs.YtmifoihfpjomaaaW.PrintMore Go.Proofs.YtmifoihfpjomaaaR
attribute [local go_sem] max2_int min2_int max_two min_two
set_option linter.unusedSimpArgs false
set_option linter.unusedVariables false
set_option maxRecDepth 100000
/-- a text's bytes are bytes -/
theorem bytesOf_bytes (s : ByteArray) : bytes8' (bytesOf s) := by
  intro y hy
  unfold bytesOf at hy
  obtain ⟨b, -, rfl⟩ := List.mem_map.1 hy
  have := b.toNat_lt
  omega
theorem str_bytes (s : ByteArray) : strOfNums (bytesOf s) = s := by
  apply ByteArray.ext
  show ((s.data.toList.map fun b => (b.toNat : Int)).map fun n => UInt8.ofNat n.toNat).toArray = s.data
  rw [List.map_map]
  conv => rhs; rw [← Array.toArray_toList (xs := s.data)]
  congr 1
  conv => rhs; rw [← List.map_id s.data.toList]
  apply List.map_congr_left
  intro b _
  show UInt8.ofNat ((b.toNat : Int)).toNat = b
  rw [Int.toNat_natCast]
  exact UInt8.ofNat_toNat
end Go.Proofs.Ytmifoihfpjomaaa.F

-- Grp
namespace Go.Proofs.Ytmifoihfpjomaaa.F
open Go Go.RowKit Go.Proofs.YtmifoihfpjomaaaW.PrintWords Go.Proofs.YtmifoihfpjomaaaW.PrintLast Go.Proofs.YtmifoihfpjomaaaW.PrintMore Go.Proofs.YtmifoihfpjomaaaR
open Go.ChangeMaps Go.MapKept Go.ChangeShapes
open Go.WideElems (Fit rd rg pl rd_val elemAt)
open Go.Maps (Keyed)
set_option linter.unusedSimpArgs false
set_option linter.unusedVariables false
section
variable {H : Type} {P : Program} {k : TypeId} {w w' : World} {base : Nat} {e : TypeId} {q : IntKind} {b n : Nat} {D : DataW H}
theorem late_upd {W wx : World} {row : Option Nat} (h : Grew W wx ∨ ∃ w1, Grew W w1 ∧ w1.grownBy wx row) : Upd (fun k => row = some k) W wx := by
  rcases h with h | ⟨w1, h1, h2⟩
  · exact Upd.of_grew h
  · exact (Upd.of_grew h1).grown h2 fun k hk => .inl hk
/-- a slice of one element of some cells in a block of its own, which is not the row that is written -/
def OneC (e : TypeId) (cs : List Value) (vb : Value) : World → Value → Prop := fun w v => ∃ g1, v = .slice (some ⟨g1, 0, none⟩) 1 1 ∧ Blk w g1 e cs ∧ some g1 ≠ vb.ownBlock
theorem OneC.stableB (e : TypeId) (cs : List Value) (vb : Value) : ∀ w w' v, Grew w w' ∨ w.grownBy w' vb.ownBlock → OneC e cs vb w v → OneC e cs vb w' v :=
  fun _ _ _ hr ⟨g1, h1, h2, h3⟩ => ⟨g1, h1, hr.elim h2.grew (fun hg => blk_grown h2 hg h3), h3⟩
theorem OneC.new {w : World} {e : TypeId} {cs : List Value} {vb : Value} (h : ∀ k, vb.ownBlock = some k → k < w.heap.size) : OneC e cs vb (w.alloc (.cells cs.toArray e)) (.slice (some ⟨w.heap.size, 0, none⟩) 1 1) :=
  ⟨_, rfl, Blk.new w e cs, fun he => by have := h _ he.symm; omega⟩
/-- one element, of some cells in a block of its own, behind a row of one's own -/
theorem app_cells {P : Program} (W : World) (base : Nat) (t e ty : TypeId) (z : Value) (size bytes : Nat) (ht : P.underlying t = some (.slice e)) (hinfo : (P.info? e).map (fun i => (i.zero, i.size, i.bytes)) = some (some z, size, bytes)) (hz : z.cells.size = size) (hs0 : 0 < size) (hb0 : 0 < bytes)
    (v : Value) (n : Nat) (xs : List Value) (g1 : Nat) (cs : List Value) (hcs : cs.length = size) (h1 : ∀ u ∈ cs, u.oneCell' = true) (HO : W.ownsRow base e size v n xs) (HB : Blk W g1 e cs) (hbase : base ≤ W.heap.size) (hl : (n + 1) * bytes ≤ 140737488355328) :
    ∃ v1 w1, (Builtin.append_ #[t, t] ty #[v, .slice (some ⟨g1, 0, none⟩) 1 1]).run P W = .ok v1 w1 ∧ w1.ownsRow base e size v1 (n + 1) (xs ++ cs) ∧ W.grownBy w1 v.ownBlock ∧ (v1.ownBlock = v.ownBlock ∨ ∃ k, v1.ownBlock = some k ∧ W.heap.size ≤ k) := by
  obtain ⟨i0, hi, hzz⟩ := Option.map_eq_some_iff.1 hinfo
  simp only [Prod.mk.injEq] at hzz
  obtain ⟨hz0, hz1, hz2⟩ := hzz
  have hlen : n + 1 ≤ 140737488355328 := Nat.le_trans (Nat.le_mul_of_pos_right _ hb0) hl
  obtain ⟨v1, w1, hr, h2, h3, _, h5⟩ := run_append_own_at (P := P) W base t ty e i0 z size bytes ht hi hz0 hz1 hz2 hz hs0 v n xs HO ⟨g1, 0, none⟩ 1 1 cs (by rw [hcs]; simp)
    (fun j u hu => by rw [add_plain, HB.at_]; simpa using hu) h1 (by simp only [maxLen]; omega) hl hbase
  exact ⟨v1, w1, hr, h2, h3, h5.imp id fun h => ⟨_, h, Nat.le_refl _⟩⟩
/-- a whole row behind one's own -/
theorem app_many {P : Program} (W : World) (base : Nat) (t e ty : TypeId) (z : Value) (size bytes : Nat) (ht : P.underlying t = some (.slice e)) (hinfo : (P.info? e).map (fun i => (i.zero, i.size, i.bytes)) = some (some z, size, bytes)) (hz : z.cells.size = size) (hs0 : 0 < size) (hb0 : 0 < bytes)
    (v : Value) (n : Nat) (xs : List Value) (A : Option Addr) (m c : Nat) (news : List Value) (hcs : news.length = m * size) (h1 : ∀ u ∈ news, u.oneCell' = true) (hc : 0 < m → ∃ ad, A = some ad ∧ ∀ j u, news[j]? = some u → W.cell? (ad.add j) = some u)
    (HO : W.ownsRow base e size v n xs) (hbase : base ≤ W.heap.size) (hl : (n + m) * bytes ≤ 140737488355328) :
    ∃ v1 w1, (Builtin.append_ #[t, t] ty #[v, .slice A m c]).run P W = .ok v1 w1 ∧ w1.ownsRow base e size v1 (n + m) (xs ++ news) ∧ W.grownBy w1 v.ownBlock ∧ (v1.ownBlock = v.ownBlock ∨ ∃ k, v1.ownBlock = some k ∧ W.heap.size ≤ k) := by
  obtain ⟨i0, hi, hzz⟩ := Option.map_eq_some_iff.1 hinfo
  simp only [Prod.mk.injEq] at hzz
  obtain ⟨hz0, hz1, hz2⟩ := hzz
  have hlen : n + m ≤ 140737488355328 := Nat.le_trans (Nat.le_mul_of_pos_right _ hb0) hl
  rcases Nat.eq_zero_or_pos m with h0 | hpos
  · subst h0
    obtain rfl : news = [] := List.eq_nil_of_length_eq_zero (by simpa using hcs)
    refine ⟨v, W, ?_, by simpa using HO, World.grownBy.refl W _, .inl rfl⟩
    have hld : ∀ ad : Addr, (loadCells ad 0).run P W = .ok #[] W := fun ad => by simpa using run_loadCells_list (P := P) W ad [] (by simp)
    rcases HO.2 with ⟨rfl, hn⟩ | ⟨g, cap, cur, rfl, _, _, hnc, _⟩
    · cases A <;> simp [Builtin.append_, run_underlying ht, sizeOf, typeInfo, hi, Builtin.lenOf, Builtin.firstCells, hld]
    · cases A <;> simp [Builtin.append_, run_underlying ht, sizeOf, typeInfo, hi, Builtin.lenOf, Builtin.firstCells, hnc, storeCells, hld]
  · obtain ⟨ad, rfl, hcells⟩ := hc hpos
    obtain ⟨v1, w1, hr, h2, h3, _, h5⟩ := run_append_own_at (P := P) W base t ty e i0 z size bytes ht hi hz0 hz1 hz2 hz hs0 v n xs HO ad m c news hcs hcells h1 (by simp only [maxLen]; omega) hl hbase
    exact ⟨v1, w1, hr, h2, h3, h5.imp id fun h => ⟨_, h, Nat.le_refl _⟩⟩
end
end Go.Proofs.Ytmifoihfpjomaaa.F

-- AudC
namespace Go.Proofs.Ytmifoihfpjomaaa.F
open Go Go.RowKit Go.Proofs.YtmifoihfpjomaaaW.PrintWords Go.Proofs.YtmifoihfpjomaaaW.PrintLast Go.Proofs.YtmifoihfpjomaaaW.PrintMore Go.Proofs.YtmifoihfpjomaaaM Go.Proofs.YtmifoihfpjomaaaR
attribute [local go_sem] max2_int min2_int max_two min_two
set_option linter.unusedSimpArgs false
set_option linter.unusedVariables false
set_option maxRecDepth 100000
set_option maxHeartbeats 4000000 in
theorem achain_c (w : World) (d : List Int) (A : Option Addr) (n c : Nat) (l : List En) (hr : Kd.C k36 w A n l) (hn : l.length = n) (hc : n ≤ c) (hn2 : n ≤ 1000) (hd : bytes8' d) (hdl : d.length ≤ 1000) (hg : ∀ e ∈ l, goodP e = true) :
    Calls Try.prog 33 #[.string (strOfNums d), .slice A n c] w (Tells w (Is (.string (strOfNums (chainE d l))))) := by
  have HR := Lib.hid hr
  have HN := Lib.hid hn
  have HG := Lib.hid hg
  have HDB := Lib.hid (chainE_bytes hd)
  have HDL := Lib.hid (chainE_len hdl)
  have h0 : strOfNums d = strOfNums (chainE d []) := rfl
  rw [h0]
  obtain ⟨K, hK⟩ : ∃ K, K = strOfNums (chainE d []) := ⟨_, rfl⟩
  rw [← hK]
  have HK := Lib.hid hK
  clear hr hn hg hd hdl h0 hK
  go_enter Try.func33, Try.ntmps33
  go_wp2_with fail
  go_loopw [0, 9] (fun v0 iv wr => ∃ (pre suf : List En) (X : ByteArray), v0 = .string X ∧ iv = .int .i64 (pre.length : Int) ∧ l = pre ++ suf ∧ X = strOfNums (chainE d pre) ∧ Grew w wr) (fun _ iv _ => n - (intOf iv).toNat)
  case atStart => exact ⟨[], l, _, rfl, rfl, rfl, HK.out, Grew.refl w⟩
  case round =>
    obtain ⟨pre, suf, X, rfl, rfl, hp, hX, hgr⟩ := hrel
    have hnn := HN.out
    rw [hp, List.length_append] at hnn
    rcases suf with _ | ⟨e, suf⟩
    · have d1 : decide ((pre.length : Int) < (n : Int)) = false := decide_eq_false (by simp at hnn; omega)
      have d2 : decide (pre.length < n) = false := decide_eq_false (by simp at hnn; omega)
      rw [List.append_nil] at hp
      have HP := Lib.hid hp
      have HX := Lib.hid hX
      clear hp hnn hX
      go_wp2_with fail
      go_ret
      exact ⟨_, rfl, by rw [HX.out, HP.out]; rfl, hgr⟩
    · have hlt : pre.length < n := by simp at hnn; omega
      have d1 : decide ((pre.length : Int) < (n : Int)) = true := decide_eq_true (by omega)
      have d2 : decide (pre.length < n) = true := decide_eq_true hlt
      have i1 : (pre.length : Int) < (n : Int) := by omega
      obtain ⟨ad0, rfl, k0, k1, k2, k3, k4⟩ := at_T36 (Kd.C_below HR.out hgr) (pre.length : Int) (by omega) i1
      have hxe : rd_T36 l (pre.length : Int) = e := by rw [hp]; exact rd_mid pre suf e
      rw [Int.toNat_natCast, hxe] at k0 k1 k2 k3 k4
      have hge := HG.out e (by rw [hp]; simp)
      have HP := Lib.hid (show l = (pre ++ [e]) ++ suf from by rw [hp]; simp)
      obtain ⟨s, t, k, p, x⟩ := e
      simp only at k0 k1 k2 k3 k4
      have HBY := Lib.hid (fun w => bytes_c s t k p x hge w)
      obtain ⟨M, hM⟩ : ∃ M, M = strOfNums (bytesE ⟨s, t, k, p, x⟩) := ⟨_, rfl⟩
      obtain ⟨Y, hY⟩ : ∃ Y, Y = strOfNums (chainE d (pre ++ [⟨s, t, k, p, x⟩])) := ⟨_, rfl⟩
      have HSE := Lib.hid (fun w => seal_c w (chainE d pre) (bytesE ⟨s, t, k, p, x⟩) (HDB.out pre) (bytesE_bytes _) (by have := HDL.out pre; omega) (by have := bytesE_len hge; omega))
      rw [← chainE_snoc, ← hX, ← hM, ← hY] at HSE
      rw [← hM] at HBY
      have HY := Lib.hid hY
      have HGR := Lib.hid hgr
      clear hp hnn hxe hge hX hM hY hgr
      go_wp2_with fail
      refine (HBY.out _).mono ?_
      rintro e2 w2 ⟨_, rfl, rfl, hg2⟩
      have hg2' := Grew.trans (Grew.trans HGR.out (Grew.alloc _ _)) hg2
      clear k0 k1 k2 k3 k4 hg2
      go_wp2_with fail
      refine (HSE.out _).mono ?_
      rintro e3 w3 ⟨_, rfl, rfl, hg3⟩
      have hg3' := Grew.trans hg2' hg3
      clear hg2' hg3
      go_wp2_with fail
      go_roundw
      case rel => exact ⟨pre ++ [⟨s, t, k, p, x⟩], suf, Y, rfl, by simp, HP.out, HY.out, hg3'⟩
      case measure => simp [intOf]; omega
set_option maxHeartbeats 4000000 in
theorem rbytes_c (s t k : Int) (p : ByteArray) (x : Int) (h : goodP ⟨s, t, k, p, x⟩ = true) (w : World) : Calls Try.prog 24 #[.agg #[.int .i64 s, .int .i64 t, .int .i64 k, .string p, .int .i64 x]] w (Tells w (Is (.string (strOfNums (bytesE ⟨s, t, k, p, x⟩))))) := by
  have hg := goodR h
  have e1 := nat_wrap (x := s) (by have := hg.s0; simp at this; omega) (by have := hg.s1; simp at this; omega)
  have e2 := nat_wrap (x := t) hg.t0 (by have := hg.t1; simp at this; omega)
  have e3 := nat_wrap (x := k) hg.k0 (by have := hg.k1; simp at this; omega)
  have e4 := nat_wrap (x := x) hg.e0 (by have := hg.e1; simp at this; omega)
  have hps : p.size ≤ 32 := hg.p
  have H1 := Lib.hid (fun w => rput_c s.toNat w (by have := hg.s1; simp at this; omega))
  have H2 := Lib.hid (fun w => rput_c t.toNat w (by have := hg.t1; simp at this; omega))
  have H3 := Lib.hid (fun w => rput_c k.toNat w (by have := hg.k1; simp at this; omega))
  have H4 := Lib.hid (fun w => rtext_c p w (by omega))
  have H5 := Lib.hid (fun w => rput_c x.toNat w (by have := hg.e1; simp at this; omega))
  have a1 := putL_ten (n := s.toNat) (by have := hg.s1; simp at this; omega)
  have a2 := putL_ten (n := t.toNat) (by have := hg.t1; simp at this; omega)
  have a3 := putL_ten (n := k.toNat) (by have := hg.k1; simp at this; omega)
  have a4 := putL_ten (n := p.size) (by omega)
  have a5 := putL_ten (n := x.toNat) (by have := hg.e1; simp at this; omega)
  obtain ⟨N1, h1⟩ : ∃ N, N = strOfNums (putL s.toNat) := ⟨_, rfl⟩
  obtain ⟨N2, h2⟩ : ∃ N, N = strOfNums (putL t.toNat) := ⟨_, rfl⟩
  obtain ⟨N3, h3⟩ : ∃ N, N = strOfNums (putL k.toNat) := ⟨_, rfl⟩
  obtain ⟨N4, h4⟩ : ∃ N, N = strOfNums (putL p.size) ++ p := ⟨_, rfl⟩
  obtain ⟨N5, h5⟩ : ∃ N, N = strOfNums (putL x.toNat) := ⟨_, rfl⟩
  have s1 : N1.size ≤ 10 := by rw [h1, str_size]; exact a1
  have s2 : N2.size ≤ 10 := by rw [h2, str_size]; exact a2
  have s3 : N3.size ≤ 10 := by rw [h3, str_size]; exact a3
  have s4 : N4.size ≤ 100 := by rw [h4, ByteArray.size_append, str_size]; omega
  have s5 : N5.size ≤ 10 := by rw [h5, str_size]; exact a5
  have hfin : strOfNums (bytesE ⟨s, t, k, p, x⟩) = N1 ++ N2 ++ N3 ++ N4 ++ N5 := by
    have e4' : N4 = strOfNums (textL p) := by rw [h4]; unfold textL; rw [← str_append]; rw [str_bytesOf]
    rw [h1, h2, h3, e4', h5, str_append, str_append, str_append, str_append]; rfl
  rw [hfin]
  rw [← h1, ← e1] at H1
  rw [← h2, ← e2] at H2
  rw [← h3, ← e3] at H3
  rw [← h4] at H4
  rw [← h5, ← e4] at H5
  obtain ⟨X2, hX2⟩ : ∃ X, X = N1 ++ N2 := ⟨_, rfl⟩
  obtain ⟨X3, hX3⟩ : ∃ X, X = X2 ++ N3 := ⟨_, rfl⟩
  obtain ⟨X4, hX4⟩ : ∃ X, X = X3 ++ N4 := ⟨_, rfl⟩
  have x2 : X2.size ≤ 20 := by rw [hX2, ByteArray.size_append]; omega
  have x3 : X3.size ≤ 30 := by rw [hX3, ByteArray.size_append]; omega
  have x4 : X4.size ≤ 130 := by rw [hX4, ByteArray.size_append]; omega
  have z1 : ¬ (9223372036854775807 < N1.size + N2.size) := by omega
  have z2 : ¬ (9223372036854775807 < X2.size + N3.size) := by omega
  have z3 : ¬ (9223372036854775807 < X3.size + N4.size) := by omega
  have z4 : ¬ (9223372036854775807 < X4.size + N5.size) := by omega
  rw [← hX2, ← hX3, ← hX4]
  have y2 := hX2.symm
  have y3 := hX3.symm
  have y4 := hX4.symm
  have CB := Lib.hid (fun wx (hh : Grew (w.alloc (.cells #[.int .i64 s, .int .i64 t, .int .i64 k, .string p, .int .i64 x] 36)) wx) => ((Blk.new w 36 [.int .i64 s, .int .i64 t, .int .i64 k, .string p, .int .i64 x]).grew hh).at_)
  clear hg h e1 e2 e3 e4 hps a1 a2 a3 a4 a5 h1 h2 h3 h4 h5 s1 s2 s3 s4 s5 hfin x2 x3 x4 hX2 hX3 hX4
  go_enter Try.func24, Try.ntmps24
  go_wp2_with fail
  apply region_grew [Is _, Is _, Is _, Is _, Is _, Is _, Is _, Is _, Is _, Is _, Is _, Is _, Is _, Is _, Is _, Is _, Is _, Is _, Is _, Is _, Is _, Is _] [([(1, none)], none), ([(3, some 0)], none), ([(4, some 1)], none), ([(5, some 2)], none), ([(1, none)], none), ([(7, some 4)], none), ([(8, some 5)], none), ([(9, some 6)], none), ([(6, some 3), (10, some 7)], none), ([(1, none)], none), ([(12, some 9)], none), ([(13, some 10)], none), ([(14, some 11)], none), ([(11, some 8), (15, some 12)], none), ([(1, none)], none), ([(17, some 14)], none), ([(18, some 15)], none), ([(16, some 13), (19, some 16)], none), ([(1, none)], none), ([(21, some 18)], none), ([(22, some 19)], none), ([(23, some 20)], none)] [(3, 0), (4, 1), (5, 2), (6, 3), (7, 4), (8, 5), (9, 6), (10, 7), (11, 8), (12, 9), (13, 10), (14, 11), (15, 12), (16, 13), (17, 14), (18, 15), (19, 16), (20, 17), (21, 18), (22, 19), (23, 20), (24, 21)] rfl (by kernel_rfl) (by kernel_rfl) (show Stable Grew _ from ⟨Is.stable _, Is.stable _, Is.stable _, Is.stable _, Is.stable _, Is.stable _, Is.stable _, Is.stable _, Is.stable _, Is.stable _, Is.stable _, Is.stable _, Is.stable _, Is.stable _, Is.stable _, Is.stable _, Is.stable _, Is.stable _, Is.stable _, Is.stable _, Is.stable _, Is.stable _, trivial⟩)
  · show OpsHold _ _ _ _ _ _ _ _ _
    refine ⟨fun a_ wx hR hD K hK => ?_, ?_⟩
    · have hG : Grew _ wx := (Grew.drew _).trans hR
      simp [Deps, Dep, at_, Is] at hD
      go_simp
      exact hK _ _ (Grew.refl _) rfl
    refine ⟨fun a_ wx hR hD K hK => ?_, ?_⟩
    · have hG : Grew _ wx := (Grew.drew _).trans hR
      simp [Deps, Dep, at_, Is] at hD
      have e_ := CB.out wx hG 0
      simp only [List.getElem?_cons_zero] at e_
      go_simp
      exact hK _ _ (Grew.refl _) rfl
    refine ⟨fun a_ wx hR hD K hK => ?_, ?_⟩
    · have hG : Grew _ wx := (Grew.drew _).trans hR
      simp [Deps, Dep, at_, Is] at hD
      go_simp
      exact hK _ _ (Grew.refl _) rfl
    refine ⟨fun a_ wx hR hD K hK => ?_, ?_⟩
    · have hG : Grew _ wx := (Grew.drew _).trans hR
      simp [Deps, Dep, at_, Is] at hD
      go_simp
      have hcn := H1.out wx
      with_reducible refine hcn.mono ?_
      clear hcn
      rintro e wy ⟨v, rfl, hv, hg⟩
      exact hK _ _ hg hv
    refine ⟨fun a_ wx hR hD K hK => ?_, ?_⟩
    · have hG : Grew _ wx := (Grew.drew _).trans hR
      simp [Deps, Dep, at_, Is] at hD
      go_simp
      exact hK _ _ (Grew.refl _) rfl
    refine ⟨fun a_ wx hR hD K hK => ?_, ?_⟩
    · have hG : Grew _ wx := (Grew.drew _).trans hR
      simp [Deps, Dep, at_, Is] at hD
      have e_ := CB.out wx hG 1
      simp only [List.getElem?_cons_zero, List.getElem?_cons_succ] at e_
      go_simp
      exact hK _ _ (Grew.refl _) rfl
    refine ⟨fun a_ wx hR hD K hK => ?_, ?_⟩
    · have hG : Grew _ wx := (Grew.drew _).trans hR
      simp [Deps, Dep, at_, Is] at hD
      go_simp
      exact hK _ _ (Grew.refl _) rfl
    refine ⟨fun a_ wx hR hD K hK => ?_, ?_⟩
    · have hG : Grew _ wx := (Grew.drew _).trans hR
      simp [Deps, Dep, at_, Is] at hD
      go_simp
      have hcn := H2.out wx
      with_reducible refine hcn.mono ?_
      clear hcn
      rintro e wy ⟨v, rfl, hv, hg⟩
      exact hK _ _ hg hv
    refine ⟨fun a_ wx hR hD K hK => ?_, ?_⟩
    · have hG : Grew _ wx := (Grew.drew _).trans hR
      simp [Deps, Dep, at_, Is] at hD
      obtain ⟨hd0, hd1⟩ := hD
      go_simp
      exact hK _ _ (Grew.refl _) rfl
    refine ⟨fun a_ wx hR hD K hK => ?_, ?_⟩
    · have hG : Grew _ wx := (Grew.drew _).trans hR
      simp [Deps, Dep, at_, Is] at hD
      go_simp
      exact hK _ _ (Grew.refl _) rfl
    refine ⟨fun a_ wx hR hD K hK => ?_, ?_⟩
    · have hG : Grew _ wx := (Grew.drew _).trans hR
      simp [Deps, Dep, at_, Is] at hD
      have e_ := CB.out wx hG 2
      simp only [List.getElem?_cons_zero, List.getElem?_cons_succ] at e_
      go_simp
      exact hK _ _ (Grew.refl _) rfl
    refine ⟨fun a_ wx hR hD K hK => ?_, ?_⟩
    · have hG : Grew _ wx := (Grew.drew _).trans hR
      simp [Deps, Dep, at_, Is] at hD
      go_simp
      exact hK _ _ (Grew.refl _) rfl
    refine ⟨fun a_ wx hR hD K hK => ?_, ?_⟩
    · have hG : Grew _ wx := (Grew.drew _).trans hR
      simp [Deps, Dep, at_, Is] at hD
      go_simp
      have hcn := H3.out wx
      with_reducible refine hcn.mono ?_
      clear hcn
      rintro e wy ⟨v, rfl, hv, hg⟩
      exact hK _ _ hg hv
    refine ⟨fun a_ wx hR hD K hK => ?_, ?_⟩
    · have hG : Grew _ wx := (Grew.drew _).trans hR
      simp [Deps, Dep, at_, Is] at hD
      obtain ⟨hd0, hd1⟩ := hD
      go_simp
      exact hK _ _ (Grew.refl _) rfl
    refine ⟨fun a_ wx hR hD K hK => ?_, ?_⟩
    · have hG : Grew _ wx := (Grew.drew _).trans hR
      simp [Deps, Dep, at_, Is] at hD
      go_simp
      exact hK _ _ (Grew.refl _) rfl
    refine ⟨fun a_ wx hR hD K hK => ?_, ?_⟩
    · have hG : Grew _ wx := (Grew.drew _).trans hR
      simp [Deps, Dep, at_, Is] at hD
      have e_ := CB.out wx hG 3
      simp only [List.getElem?_cons_zero, List.getElem?_cons_succ] at e_
      go_simp
      exact hK _ _ (Grew.refl _) rfl
    refine ⟨fun a_ wx hR hD K hK => ?_, ?_⟩
    · have hG : Grew _ wx := (Grew.drew _).trans hR
      simp [Deps, Dep, at_, Is] at hD
      go_simp
      have hcn := H4.out wx
      with_reducible refine hcn.mono ?_
      clear hcn
      rintro e wy ⟨v, rfl, hv, hg⟩
      exact hK _ _ hg hv
    refine ⟨fun a_ wx hR hD K hK => ?_, ?_⟩
    · have hG : Grew _ wx := (Grew.drew _).trans hR
      simp [Deps, Dep, at_, Is] at hD
      obtain ⟨hd0, hd1⟩ := hD
      go_simp
      exact hK _ _ (Grew.refl _) rfl
    refine ⟨fun a_ wx hR hD K hK => ?_, ?_⟩
    · have hG : Grew _ wx := (Grew.drew _).trans hR
      simp [Deps, Dep, at_, Is] at hD
      go_simp
      exact hK _ _ (Grew.refl _) rfl
    refine ⟨fun a_ wx hR hD K hK => ?_, ?_⟩
    · have hG : Grew _ wx := (Grew.drew _).trans hR
      simp [Deps, Dep, at_, Is] at hD
      have e_ := CB.out wx hG 4
      simp only [List.getElem?_cons_zero, List.getElem?_cons_succ] at e_
      go_simp
      exact hK _ _ (Grew.refl _) rfl
    refine ⟨fun a_ wx hR hD K hK => ?_, ?_⟩
    · have hG : Grew _ wx := (Grew.drew _).trans hR
      simp [Deps, Dep, at_, Is] at hD
      go_simp
      exact hK _ _ (Grew.refl _) rfl
    refine ⟨fun a_ wx hR hD K hK => ?_, ?_⟩
    · have hG : Grew _ wx := (Grew.drew _).trans hR
      simp [Deps, Dep, at_, Is] at hD
      go_simp
      have hcn := H5.out wx
      with_reducible refine hcn.mono ?_
      clear hcn
      rintro e wy ⟨v, rfl, hv, hg⟩
      exact hK _ _ hg hv
    trivial
  · show EndHold _ _ _ _ _ _ _
    refine end_all (xs := [_, _, _, _, _, _, _, _, _, _, _, _, _, _, _, _, _, _, _, _, _, _]) ⟨rfl, rfl, rfl, rfl, rfl, rfl, rfl, rfl, rfl, rfl, rfl, rfl, rfl, rfl, rfl, rfl, rfl, rfl, rfl, rfl, rfl, rfl, trivial⟩ ?_
    rintro w2 hR1 -
    refine ⟨?_⟩
    have hG_w2 : Grew _ w2 := (Grew.drew _).trans hR1
    clear hR1
    simp only [Act.put, List.setIfInBounds_toArray, List.set_cons_succ, List.set_cons_zero, dropN, putEach]
    go_wp2_with fail
    go_ret
    exact ⟨_, rfl, rfl, Grew.trans (Grew.alloc _ _) hG_w2⟩
end Go.Proofs.Ytmifoihfpjomaaa.F

-- AudD
namespace Go.Proofs.Ytmifoihfpjomaaa.F
open Go Go.RowKit Go.Proofs.YtmifoihfpjomaaaW.PrintWords Go.Proofs.YtmifoihfpjomaaaW.PrintLast Go.Proofs.YtmifoihfpjomaaaW.PrintMore Go.Proofs.YtmifoihfpjomaaaM Go.Proofs.YtmifoihfpjomaaaR
attribute [local go_sem] max2_int min2_int max_two min_two
set_option linter.unusedSimpArgs false
set_option linter.unusedVariables false
set_option maxRecDepth 100000
def digP (a : ByteArray) (last : Int) (l : List En) : ByteArray := if mayP a last l then strOfNums (chainE (bytesOf a) l) else ⟨#[]⟩
set_option maxHeartbeats 4000000 in
theorem digest_c (a : ByteArray) (last : Int) (A : Option Addr) (c : Nat) (l : List En) (w : World) (hr : Kd.C k36 w A l.length l) (hc : l.length ≤ c) :
    Calls Try.prog 20 #[.agg #[.string a, .int .i64 last, .slice A l.length c]] w (Tells w (Is (.string (digP a last l)))) := by
  have HM := Lib.hid (fun w' (h : Grew w w') => may_c a last A c l w' (Kd.C_below hr h) hc)
  obtain ⟨R, hR⟩ : ∃ R, R = digP a last l := ⟨_, rfl⟩
  rw [← hR]
  obtain ⟨b, hb⟩ : ∃ b, mayP a last l = b := ⟨_, rfl⟩
  rw [hb] at HM
  have hgw : Grew w (w.alloc (.cells #[.string a, .int .i64 last, .slice A l.length c] 27)) := Grew.alloc _ _
  cases b with
  | false =>
    have hres : R = ⟨#[]⟩ := by rw [hR]; unfold digP; rw [hb]; rfl
    subst hres
    clear hR hb hr
    go_enter Try.func20, Try.ntmps20
    go_wp2_with fail
    refine (HM.out _ hgw).mono ?_
    rintro e w2 ⟨_, rfl, rfl, hg2⟩
    go_wp2_with fail
    go_ret
    exact ⟨_, rfl, rfl, Grew.trans hgw hg2⟩
  | true =>
    have hm := mayR hb
    have hres : R = strOfNums (chainE (bytesOf a) l) := by rw [hR]; unfold digP; rw [hb]; rfl
    have hlen := hm.len
    have hsz := hm.sz
    have HCH := Lib.hid (fun w' (h : Grew w w') => achain_c w' (bytesOf a) A l.length c l (Kd.C_below hr h) rfl hc (by omega) (bytesOf_bytes a) (by rw [bytesOf_length]; omega) hm.good)
    rw [str_bytes, ← hres] at HCH
    have k0 := (Blk.new w 27 [.string a, .int .i64 last, .slice A l.length c])
    have HK := Lib.hid (fun wx (h : Grew (w.alloc (.cells #[.string a, .int .i64 last, .slice A l.length c] 27)) wx) => (k0.grew h).at_)
    clear hR hb hr hm hres hlen hsz k0
    go_enter Try.func20, Try.ntmps20
    go_wp2_with fail
    refine (HM.out _ hgw).mono ?_
    rintro e w2 ⟨_, rfl, rfl, hg2⟩
    have k0 := HK.out w2 hg2 0
    have k2 := HK.out w2 hg2 2
    simp only [List.getElem?_cons_zero, List.getElem?_cons_succ] at k0 k2
    go_wp2_with fail
    refine (HCH.out _ (Grew.trans hgw hg2)).mono ?_
    rintro e w3 ⟨_, rfl, rfl, hg3⟩
    go_wp2_with fail
    go_ret
    exact ⟨_, rfl, rfl, Grew.trans (Grew.trans hgw hg2) hg3⟩
end Go.Proofs.Ytmifoihfpjomaaa.F

-- RowO
namespace Go.Proofs.Ytmifoihfpjomaaa.F
open Go Go.RowKit Go.Proofs.YtmifoihfpjomaaaW.PrintWords Go.Proofs.YtmifoihfpjomaaaW.PrintLast Go.Proofs.YtmifoihfpjomaaaW.PrintMore Go.Proofs.YtmifoihfpjomaaaR
set_option linter.unusedSimpArgs false
set_option linter.unusedVariables false
/-- v is a row of n elements with these cells, in a block of its own that lies from base on -/
def RowO (w : World) (base : Nat) (e : TypeId) (size : Nat) (v : Value) (n : Nat) (xs : List Value) : Prop :=
  xs.length = n * size ∧ ((v = .slice none 0 0 ∧ n = 0) ∨ ∃ g o cap cur, v = .slice (some ⟨g, o, none⟩) n cap ∧ base ≤ g ∧ w.heap[g]? = some (.cells cur e (0, 0)) ∧ n ≤ cap ∧ cap ≤ maxLen ∧ o + cap * size ≤ cur.size ∧ (cur.toList.drop o).take (n * size) = xs)
section
variable {w w' : World} {base : Nat} {e : TypeId} {size : Nat} {v : Value} {n : Nat} {xs : List Value}
theorem rowO_of_own (h : w.ownsRow base e size v n xs) : RowO w base e size v n xs := by
  refine ⟨h.1, h.2.imp id fun ⟨g, cap, cur, h1, h2, h3, h4, h5, h6, h7⟩ => ⟨g, 0, cap, cur, h1, h2, h3, h4, h5, by omega, by simpa using h7⟩⟩
theorem rowO_nil (w : World) (base : Nat) (e : TypeId) (size : Nat) : RowO w base e size (.slice none 0 0) 0 [] := ⟨by simp, .inl ⟨rfl, rfl⟩⟩
theorem RowO.slice (h : RowO w base e size v n xs) : ∃ A c, v = .slice A n c ∧ n ≤ c := by
  rcases h.2 with ⟨rfl, rfl⟩ | ⟨g, o, cap, cur, rfl, _, _, hn, _⟩
  · exact ⟨none, 0, rfl, Nat.le_refl _⟩
  · exact ⟨_, cap, rfl, hn⟩
theorem RowO.base_ (h : RowO w base e size v n xs) (k : Nat) (hk : v.ownBlock = some k) : base ≤ k := by
  rcases h.2 with ⟨rfl, _⟩ | ⟨g, o, cap, cur, rfl, hb, _⟩
  · simp [Value.ownBlock] at hk
  · have : g = k := by simpa [Value.ownBlock] using hk
    omega
theorem RowO.lt (h : RowO w base e size v n xs) (k : Nat) (hk : v.ownBlock = some k) : k < w.heap.size := by
  rcases h.2 with ⟨rfl, _⟩ | ⟨g, o, cap, cur, rfl, hb, hh, _⟩
  · simp [Value.ownBlock] at hk
  · have : g = k := by simpa [Value.ownBlock] using hk
    subst this
    exact blk_lt hh
theorem RowO.move (h : RowO w base e size v n xs) (hm : ∀ k, v.ownBlock = some k → w'.heap[k]? = w.heap[k]?) : RowO w' base e size v n xs := by
  refine ⟨h.1, h.2.imp id fun ⟨g, o, cap, cur, h1, h2, h3, h4⟩ => ⟨g, o, cap, cur, h1, h2, ?_, h4⟩⟩
  rw [hm g (by rw [h1]; rfl)]; exact h3
theorem RowO.upd {S : Nat → Prop} (h : RowO w base e size v n xs) (hu : Upd S w w') (hn : ∀ k, v.ownBlock = some k → ¬ S k) : RowO w' base e size v n xs :=
  h.move fun k hk => hu.block k (h.lt k hk) (hn k hk)
theorem RowO.grew (h : RowO w base e size v n xs) (hu : Grew w w') : RowO w' base e size v n xs := h.move fun k hk => hu.block k (h.lt k hk)
theorem RowO.less {b : Nat} (h : RowO w b e size v n xs) (hb : base ≤ b) : RowO w base e size v n xs :=
  ⟨h.1, h.2.imp id fun ⟨g, o, cap, cur, h1, h2, h3⟩ => ⟨g, o, cap, cur, h1, Nat.le_trans hb h2, h3⟩⟩
theorem RowO.ne {g : Nat} {t : TypeId} {cs : List Value} (h : RowO w base e size v n xs) (hg : Blk w g t cs) (hne : e ≠ t) : v.ownBlock ≠ some g := by
  intro he
  rcases h.2 with ⟨rfl, _⟩ | ⟨g', o, cap, cur, rfl, hb, hh, _⟩
  · simp [Value.ownBlock] at he
  · have : g' = g := by simpa [Value.ownBlock] using he
    subst this
    unfold Blk at hg
    rw [hg] at hh
    injection hh with hh
    injection hh with h1 h2 h3
    exact hne h2.symm
/-- its cells -/
theorem RowO.at_ (h : RowO w base e size v n xs) (hp : 0 < n) : ∃ g o cap, v = .slice (some ⟨g, o, none⟩) n cap ∧ n ≤ cap ∧ base ≤ g ∧ g < w.heap.size ∧ (∀ j, j < n * size → w.cell? ⟨g, o + j, none⟩ = xs[j]?) ∧ ∀ j, w.frozen? ⟨g, j, none⟩ = false := by
  rcases h.2 with ⟨rfl, h0⟩ | ⟨g, o, cap, cur, rfl, hb, hh, hnc, _, hs, hx⟩
  · omega
  · refine ⟨g, o, cap, rfl, hnc, hb, blk_lt hh, fun j hj => ?_, fun j => blk_frozen hh j⟩
    rw [blk_cell hh, ← hx, List.getElem?_take_of_lt hj, List.getElem?_drop, Array.getElem?_toList]
/-- a store into it -/
theorem RowO.set (h : RowO w base e size v n xs) {g o cap : Nat} (hv : v = .slice (some ⟨g, o, none⟩) n cap) (j : Nat) (hj : j < n * size) (u : Value) : RowO (w.setCell ⟨g, o + j, none⟩ u) base e size v n (xs.set j u) := by
  refine ⟨by rw [List.length_set]; exact h.1, ?_⟩
  rcases h.2 with ⟨h1, h0⟩ | ⟨g', o', cap', cur, h1, hb, hh, hnc, hm, hs, hx⟩
  · subst h0; simp at hj
  · rw [hv] at h1
    injection h1 with h1 h2 h3
    injection h1 with h1
    injection h1 with h1 h4
    subst h1 h3 h4
    refine .inr ⟨g, o, cap, cur.setIfInBounds (o + j) u, hv, hb, ?_, hnc, hm, by simpa using hs, ?_⟩
    · exact blk_set hh (o + j) u
    · rw [Array.toList_setIfInBounds, ← hx, List.drop_set, if_neg (by omega), Nat.add_sub_cancel_left, List.take_set]
end
/-- one element, of some cells in a block of its own, behind a row of one's own -/
theorem app_rowO {P : Program} (W : World) (base : Nat) (t e ty : TypeId) (z : Value) (size bytes : Nat) (ht : P.underlying t = some (.slice e)) (hinfo : (P.info? e).map (fun i => (i.zero, i.size, i.bytes)) = some (some z, size, bytes)) (hz : z.cells.size = size) (hs0 : 0 < size) (hb0 : 0 < bytes)
    (v : Value) (n : Nat) (xs : List Value) (g1 : Nat) (cs : List Value) (hcs : cs.length = size) (h1 : ∀ u ∈ cs, u.oneCell' = true) (HO : RowO W base e size v n xs) (HB : Blk W g1 e cs) (hbase : base ≤ W.heap.size) (hl : (n + 1) * bytes ≤ 140737488355328) :
    ∃ v1 w1, (Builtin.append_ #[t, t] ty #[v, .slice (some ⟨g1, 0, none⟩) 1 1]).run P W = .ok v1 w1 ∧ RowO w1 base e size v1 (n + 1) (xs ++ cs) ∧ W.grownBy w1 v.ownBlock ∧ (v1.ownBlock = v.ownBlock ∨ ∃ k, v1.ownBlock = some k ∧ W.heap.size ≤ k) := by
  obtain ⟨i0, hi, hzz⟩ := Option.map_eq_some_iff.1 hinfo
  simp only [Prod.mk.injEq] at hzz
  obtain ⟨hz0, hz1, hz2⟩ := hzz
  subst hz1
  subst hz2
  have hlen : n + 1 ≤ 140737488355328 := Nat.le_trans (Nat.le_mul_of_pos_right _ hb0) hl
  have hnews : ∀ j u, cs[j]? = some u → W.cell? ((⟨g1, 0, none⟩ : Addr).add j) = some u := fun j u hu => by rw [add_plain, HB.at_]; simpa using hu
  have hl2 : (xs ++ cs).length = (n + 1) * i0.size := by rw [List.length_append, HO.1, hcs, Nat.add_mul, Nat.one_mul]
  rcases HO.2 with ⟨rfl, rfl⟩ | ⟨g, o, cap, cur, rfl, hbg, hg, hnc, hcm, hcs2, htake⟩
  · obtain ⟨v1, w1, hr, h2, h3, h4⟩ := app_cells (P := P) W base t e ty z i0.size i0.bytes ht hinfo hz hs0 hb0 (.slice none 0 0) 0 xs g1 cs hcs h1 ⟨HO.1, .inl ⟨rfl, rfl⟩⟩ HB hbase hl
    exact ⟨v1, w1, hr, rowO_of_own h2, h3, h4⟩
  · by_cases hroom : n + 1 ≤ cap
    · have hmul := Nat.mul_le_mul_right i0.size hroom
      have hfit : o + n * i0.size + 0 + cs.length ≤ cur.size := by rw [hcs]; rw [Nat.add_mul, Nat.one_mul] at hmul; omega
      have hf := run_firstCells_some (P := P) W i0.size 1 ⟨g1, 0, none⟩ 1 1 cs (by rw [hcs]; simp) hnews
      have hst := run_storeCells_at P g (o + n * i0.size) e cs 0 cur W hg hfit h1
      simp only [Nat.add_zero] at hst
      refine ⟨.slice (some ⟨g, o, none⟩) (n + 1) cap, W.setRow g (cur.toList.take (o + n * i0.size) ++ cs ++ cur.toList.drop (o + n * i0.size + cs.length)).toArray, ?_, ⟨hl2, .inr ⟨g, o, cap, _, rfl, hbg, setRow_heap W g cur _ e _ hg, hroom, hcm, ?_, ?_⟩⟩, ⟨rfl, rfl, rfl, by simp, fun k _ hk => setRow_other W g k _ (fun e => hk (by simp [Value.ownBlock, e]))⟩, .inl rfl⟩
      · have e9 : (⟨g, o, none⟩ : Addr).add (n * i0.size) = ⟨g, o + n * i0.size, none⟩ := by simp [Addr.add]
        simp [Builtin.append_, run_underlying ht, sizeOf, typeInfo, hi, Builtin.lenOf, hroom, hf, e9, hst]
      · simp only [List.size_toArray, List.length_append, List.length_take, List.length_drop, Array.length_toList]
        omega
      · have hh : (List.take (o + n * i0.size) cur.toList).length = o + n * i0.size := by rw [List.length_take, Array.length_toList]; omega
        rw [List.append_assoc, List.drop_append_of_le_length (by rw [hh]; omega), ← List.append_assoc, List.drop_take, Nat.add_sub_cancel_left, htake, ← hl2]
        exact List.take_left
    · have holds : ∀ j u, xs[j]? = some u → W.cell? ((⟨g, o, none⟩ : Addr).add j) = some u := fun j u hu => by
        have hj : j < n * i0.size := by
          rcases Nat.lt_or_ge j xs.length with h | h
          · rw [HO.1] at h; exact h
          · rw [List.getElem?_eq_none h] at hu; cases hu
        rw [show (⟨g, o, none⟩ : Addr).add j = ⟨g, o + j, none⟩ from by simp [Addr.add], blk_cell hg, ← hu, ← htake, List.getElem?_take_of_lt hj, List.getElem?_drop, Array.getElem?_toList]
      have hr := run_append_grow (P := P) W t ty e i0 z ht hi hz0 ⟨g, o, none⟩ n cap xs HO.1 holds ⟨g1, 0, none⟩ 1 1 cs (by rw [hcs]; simp) hnews (by omega) (by omega) (growslice_fits (by omega) hl)
      have hge := grownCap_ge W (n + 1) cap e
      have hcm2 : grownCap W (n + 1) cap e ≤ maxLen := grownCap_le_maxLen W (n + 1) cap e (by unfold maxLen; omega)
      refine ⟨_, _, hr, ⟨hl2, .inr ⟨W.heap.size, 0, _, _, rfl, hbase, heap_alloc_new W.drew _, hge, hcm2, ?_, ?_⟩⟩, ⟨rfl, rfl, rfl, by simp, fun k hk _ => Below.heap_alloc W.drew _ k hk⟩, .inr ⟨_, rfl, Nat.le_refl _⟩⟩
      · simp only [Array.size_append, List.size_toArray, size_zeroCells, hz, HO.1, hcs]
        have : (n + 1) * i0.size = n * i0.size + i0.size := by rw [Nat.add_mul, Nat.one_mul]
        have h9 : grownCap W (n + 1) cap e * i0.size = (n + 1) * i0.size + (grownCap W (n + 1) cap e - (n + 1)) * i0.size := by rw [← Nat.add_mul]; congr 1; omega
        omega
      · simp only [Array.toList_append, List.append_assoc, List.drop_zero]
        rw [← List.append_assoc, ← hl2]
        exact List.take_left
end Go.Proofs.Ytmifoihfpjomaaa.F

-- RegB
namespace Go.Proofs.YtmifoihfpjomaaaR
open Go Go.RowKit
section
variable (P : Program) (Q : Exit → Act → World → Prop) (R Rp : World → World → Prop) (V : Nat → World → Value → Prop) (a0 : Act) (w0 : World) (E : Act → World → Prop)
def PhGoalF (o : Oper) (g : GuardT) (i : Nat) (r : Reads) : Phase → Prop
  | .plain => ∀ a w, R w0 w → Deps V a0 a w r → OpGoal P Q R V o g i a w
  | .float => ∀ a w, (R w0 w ∨ ∃ w1, R w0 w1 ∧ Rp w1 w) → Deps V a0 a w r → OpGoal P Q (fun w w' => w' = w) V o g i a w
  | .big => o.guard = none ∧ ∀ a w, R w0 w → Deps V a0 a w r → ∀ K : Act → World → Prop, (∀ v w', Rp w w' → V i w' v → K (a.put o.dst v) w') → o.wp P a w K Q
def PhHoldF : Nat → List Oper → List (Reads × GuardT) → List Phase → Prop
  | i, o :: os, (r, g) :: rs, k :: ks => PhGoalF P Q R Rp V a0 w0 o g i r k ∧ PhHoldF (i + 1) os rs ks
  | _, _, _, _ => True
end

section
variable {P : Program} {ops : Array Oper} {Q : Exit → Act → World → Prop} {R Rp : World → World → Prop} {V : Nat → World → Value → Prop} {a0 : Act} {w0 : World} {E : Act → World → Prop}
theorem phHold_atF : ∀ (os : List Oper) (rs : List (Reads × GuardT)) (ks : List Phase) (k i : Nat) (o : Oper) (r : Reads) (g : GuardT) (p : Phase), PhHoldF P Q R Rp V a0 w0 k os rs ks → os[i]? = some o → rs[i]? = some (r, g) → ks[i]? = some p →
    PhGoalF P Q R Rp V a0 w0 o g (k + i) r p
  | [], _, _, _, i, o, r, g, p, _, ho, _, _ => by simp at ho
  | o' :: os, [], _, _, i, o, r, g, p, _, _, hr, _ => by simp at hr
  | o' :: os, (r', g') :: rs, [], _, i, o, r, g, p, _, _, _, hk => by simp at hk
  | o' :: os, (r', g') :: rs, p' :: ks, k, 0, o, r, g, p, h, ho, hr, hk => by
    simp at ho hr hk
    obtain ⟨rfl, rfl⟩ := hr
    subst ho
    subst hk
    exact h.1
  | o' :: os, (r', g') :: rs, p' :: ks, k, i + 1, o, r, g, p, h, ho, hr, hk => by
    have := phHold_atF os rs ks (k + 1) i o r g p h.2 (by simpa using ho) (by simpa using hr) (by simpa using hk)
    rw [show k + 1 + i = k + (i + 1) from by omega] at this
    exact this
theorem wpAny_invF {A : List Nat} {reads : List (Reads × GuardT)} {ks : List Phase} (hA : edgesOk ops A = true) (hP : pairsOk ops A = true) (hR : readsOk ops reads a0.tmps.size = true) (hT : tailOk ops A reads.length = true)
    (hrf : ∀ w, R w w) (htr : ∀ a b c, R a b → R b c → R a c) (hK : phaseOk A ks reads.length = true)
    (hst : ∀ i, ks[i]? ≠ some .big → ∀ w w' v, R w w' ∨ Rp w w' → V i w v → V i w' v)
    (hops : PhHoldF P Q R Rp V a0 w0 0 ops.toList reads ks)
    (hend : ∀ listed a w, (∀ j, listed.getD j false = decide (j < reads.length)) → InvB ops reads.length R Rp V ks a0 w0 listed a w → wpList P ops Q (ops.toList.drop reads.length) a w) :
    ∀ (fuel : Nat) (listed : Array Bool) (a : Act) (w : World), listed.toList.count false ≤ fuel → InvB ops reads.length R Rp V ks a0 w0 listed a w → wpAny P .any ops Q fuel listed a w := by
  have hT0 := hT
  simp only [tailOk, Bool.and_eq_true, decide_eq_true_eq, List.all_eq_true, Bool.or_eq_true, List.mem_range] at hT0
  -- when all of the head has come up
  have fin : ∀ (fuel : Nat) (listed : Array Bool) (a : Act) (w : World), listed.toList.count false ≤ fuel → InvB ops reads.length R Rp V ks a0 w0 listed a w → (∀ j, j < reads.length → listed.getD j false = true) → wpAny P .any ops Q fuel listed a w := by
    intro fuel listed a w hf hi hall
    have hl : ∀ j, listed.getD j false = decide (j < reads.length) := by
      intro j
      rcases Nat.lt_or_ge j reads.length with h | h
      · rw [hall j h]; simp [h]
      · rw [hi.tail j h]; simp; omega
    refine wpAny_tail hA hT fuel reads.length listed a w (Nat.le_refl _) ?_ hT0.1 hi.lsize hl (hend listed a w hl hi)
    -- those that are not listed are as many as the tail is long
    have : (listed.toList.drop reads.length).count false = listed.size - reads.length := by
      have h1 : listed.toList.drop reads.length = List.replicate (listed.size - reads.length) false := by
        refine List.ext_getElem (by simp) fun j h1 h2 => ?_
        simp only [List.getElem_drop, List.getElem_replicate]
        have h3 : reads.length + j < listed.size := by simp at h1; omega
        have h4 := hi.tail (reads.length + j) (by omega)
        simpa [h3] using h4
      rw [h1, List.count_replicate_self]
    have h2 : (listed.toList.drop reads.length).count false ≤ listed.toList.count false := List.Sublist.count_le _ (List.drop_sublist _ _)
    have := hi.lsize
    omega
  -- before that, nothing of the tail may come up
  have low : ∀ (listed : Array Bool), listed.size = ops.size → Closed ops listed → ∀ i, i ∈ Region.ready .any ops listed → reads.length ≤ i → ∀ j, j < reads.length → listed.getD j false = true := by
    intro listed hs hc i hi hm j hj
    obtain ⟨hun, o, ho, hd⟩ := mem_ready.1 hi
    have hisz := (Array.getElem?_eq_some_iff.1 ho).1
    exact closed_anc hA hc i o ho hd j ((hT0.2 i hisz).resolve_left (by omega) j (by omega))
  intro fuel
  induction fuel with
  | zero =>
    intro listed a w hf hi
    refine fin 0 listed a w hf hi fun j hj => ?_
    have hjs : j < listed.size := by have := hi.lsize; omega
    cases hl : listed.getD j false with
    | true => rfl
    | false =>
      exfalso
      have hv : listed[j] = false := by simpa [hjs] using hl
      have : 0 < listed.toList.count false := List.count_pos_iff.2 (by rw [← hv]; simp)
      omega
  | succ fuel ih =>
    intro listed a w hf hi
    by_cases hall : ∀ j, j < reads.length → listed.getD j false = true
    · exact fin (fuel + 1) listed a w hf hi hall
    refine ⟨fun h => absurd (fun j hj => all_of_ready rfl hA hi.lsize h j (by omega)) hall, fun i hir => ?_⟩
    have him : i < reads.length := by
      rcases Nat.lt_or_ge i reads.length with h | h
      · exact h
      · exact absurd (low listed hi.lsize hi.closed i hir h) hall
    obtain ⟨hun, o, ho, hdeps⟩ := mem_ready.1 hir
    have hisz : i < ops.size := (Array.getElem?_eq_some_iff.1 ho).1
    have hun' : listed.getD i false = false := by rw [getD_irrel (by rw [hi.lsize]; exact hisz) false true]; exact hun
    simp only [readsOk, List.all_eq_true] at hR
    have hRi := hR i (List.mem_range.2 him)
    have hri : reads[i]? = some (reads[i]'(by omega)) := List.getElem?_eq_getElem (by omega)
    generalize hrg : reads[i]'(by omega) = rg at hri
    obtain ⟨r, g⟩ := rg
    rw [ho, hri] at hRi
    simp only [Bool.and_eq_true, List.all_eq_true] at hRi
    obtain ⟨⟨hr, hdst⟩, hg⟩ := hRi
    -- ancestors of i are listed; descendants are not
    have hanc : ∀ k, (A.getD i 0).testBit k = true → listed.getD k false = true := closed_anc hA hi.closed i o ho hdeps
    have hdesc : ∀ j oj, ops[j]? = some oj → (A.getD j 0).testBit i = true → listed.getD j false = false := by
      intro j oj hoj hb
      cases hl : listed.getD j false with
      | false => rfl
      | true =>
        have := closed_anc hA hi.closed j oj hoj (hi.closed j oj hoj hl) i hb
        rw [this] at hun'; cases hun'
    have pair : ∀ i' j' oi' oj', i' < j' → ops[i']? = some oi' → ops[j']? = some oj' → (A.getD j' 0).testBit i' = true ∨ ((∀ t, oi'.dst = some t → t ∉ names ops oj') ∧ ∀ t, oj'.dst = some t → t ∉ oi'.looksAt ops) := by
      intro i' j' oi' oj' hlt hoi hoj
      have h1 := List.all_eq_true.1 hP j' (List.mem_range.2 (Array.getElem?_eq_some_iff.1 hoj).1)
      simp only [hoj, List.all_eq_true, List.mem_range] at h1
      have h2 := h1 i' hlt
      simp only [hoi, Bool.or_eq_true, Bool.and_eq_true] at h2
      rcases h2 with h2 | ⟨h2, h3⟩
      · exact .inl h2
      · refine .inr ⟨fun t ht => ?_, fun t ht => ?_⟩
        · simp [ht] at h2; exact h2
        · simp [ht] at h3; exact h3
    -- the writers that are listed of what i looks at are those ahead of it
    have hlook : ∀ t ∈ o.looksAt ops, lastW ops (fun j => listed.getD j false) t = lastW ops (fun j => decide (j < i)) t := by
      intro t ht
      refine lastW_congr fun j oj hoj hd => ?_
      rcases Nat.lt_trichotomy j i with hlt | rfl | hgt
      · have := (pair j i oj o hlt hoj ho).resolve_right (fun h => h.1 t hd (List.mem_append_right _ ht))
        simp [hlt, hanc j this]
      · simp [hun']
      · have := (pair i j o oj hgt ho hoj).resolve_right (fun h => h.2 t hd ht)
        rw [hdesc j oj hoj this]
        symm; simp; omega
    have hD : Deps V a0 a w r := by
      refine deps_of a w r fun ⟨t, j⟩ hx => ?_
      have h1 := hr (t, j) hx
      simp only [beq_iff_eq, List.contains_iff_mem] at h1
      have h2 := hi.tmps t
      rw [hlook t h1.1, h1.2] at h2
      cases j <;> exact h2
    simp only [phaseOk, Bool.and_eq_true, beq_iff_eq, List.all_eq_true, List.mem_range] at hK
    have hki : ks[i]? = some (ks[i]'(by omega)) := List.getElem?_eq_getElem (by omega)
    generalize hkk : ks[i]'(by omega) = kd at hki
    have hgoal := phHold_atF ops.toList reads ks 0 i o r g kd hops (by simpa using ho) hri hki
    rw [Nat.zero_add] at hgoal
    have big_all : ∀ p, ks[p]? = some .big → ∀ j, j < reads.length → j ≠ p → ks[j]? = some .float ∨ (A.getD p 0).testBit j = true := by
      intro p hp j hj hne
      have hpl : p < reads.length := by
        have := (List.getElem?_eq_some_iff.1 hp).1
        omega
      have := hK.2 p hpl
      rw [hp] at this
      simp only [List.all_eq_true, List.mem_range, Bool.or_eq_true, beq_iff_eq] at this
      rcases this j hj with (h | h) | h
      · exact absurd h hne
      · exact .inl h
      · exact .inr h
    have noBig : kd ≠ .float → ¬ BigIn ks listed := by
      rintro hne ⟨p, hp, hl⟩
      by_cases hip : i = p
      · subst hip; rw [hun'] at hl; cases hl
      · rcases big_all p hp i him hip with h | h
        · rw [hki] at h; exact hne (Option.some.inj h)
        · have hpo : p < ops.size := by
            rcases Nat.lt_or_ge p ops.size with h' | h'
            · exact h'
            · rw [show listed.getD p false = false from by simp [Array.getElem?_eq_none (show listed.size ≤ p by rw [hi.lsize]; exact h')]] at hl; cases hl
          have := closed_anc hA hi.closed p _ (Array.getElem?_eq_getElem hpo) (hi.closed p _ (Array.getElem?_eq_getElem hpo) hl) i h
          rw [this] at hun'; cases hun'
    have bigSet : ∀ {k : Phase}, kd = k → k ≠ .big → (BigIn ks (listed.setIfInBounds i true) ↔ BigIn ks listed) := by
      intro k hk hne
      constructor
      · rintro ⟨p, hp, hl⟩
        by_cases hip : i = p
        · subst hip; rw [hki] at hp; exact absurd (hk.symm.trans (Option.some.inj hp)) hne
        · rw [getD_set_other _ hip] at hl; exact ⟨p, hp, hl⟩
      · rintro ⟨p, hp, hl⟩
        by_cases hip : i = p
        · subst hip; rw [hun'] at hl; cases hl
        · exact ⟨p, hp, by rw [getD_set_other _ hip]; exact hl⟩
    have notBig : ∀ j, listed.getD j false = true → ¬ BigIn ks listed → ks[j]? ≠ some .big := fun j hl hb h => hb ⟨j, h, hl⟩
    -- behind operation i
    have next : ∀ v w', (∀ j, j ≠ i → listed.getD j false = true → ∀ u, V j w u → V j w' u) → (¬ BigIn ks (listed.setIfInBounds i true) → R w0 w') → (BigIn ks (listed.setIfInBounds i true) → ∃ w1, R w0 w1 ∧ Rp w1 w') → V i w' v → wpAny P .any ops Q fuel (listed.setIfInBounds i true) (a.put o.dst v) w' := by
      intro v w' hww he hl hv
      refine ih _ _ _ (unlisted_set hun fuel hf) ⟨he, hl, ?_, ?_, by simp [hi.lsize], ?_, fun j hj => ?_, ?_⟩
      · cases hd : o.dst <;> simp [Act.put, hi.size]
      · cases hd : o.dst <;> simp [Act.put, hi.defers]
      · intro j oj hoj hl e he hb
        by_cases hji : i = j
        · subst hji
          rw [ho] at hoj
          obtain rfl := Option.some.inj hoj
          by_cases hei : i = e.on
          · rw [← hei]; exact getD_set_self (by rw [hi.lsize]; exact hisz) _
          · rw [getD_set_other _ hei]; exact hdeps e he hb
        · rw [getD_set_other _ hji] at hl
          by_cases hei : i = e.on
          · rw [← hei]; exact getD_set_self (by rw [hi.lsize]; exact hisz) _
          · rw [getD_set_other _ hei]; exact hi.closed j oj hoj hl e he hb
      · rw [getD_set_other _ (by omega)]; exact hi.tail j hj
      · intro t
        by_cases hd : o.dst = some t
        · rw [lastW_set ho hd (p := fun j => (listed.setIfInBounds i true).getD j false) (getD_set_self (by rw [hi.lsize]; exact hisz) _) (fun j oj hoj hdj hlt => by
            have := (pair i j o oj hlt ho hoj).resolve_right (fun h => h.1 t hd (by simp [names, hdj]))
            rw [getD_set_other _ (by omega)]
            exact hdesc j oj hoj this)]
          have htn : t < a.tmps.size := by rw [hi.size]; simpa [hd] using hdst
          simp only [hd, Act.put]
          simpa [htn] using hv
        · rw [lastW_congr (q := fun j => listed.getD j false) (fun j oj hoj hdj => by
            by_cases hji : i = j
            · subst hji; rw [ho] at hoj; obtain rfl := Option.some.inj hoj; exact absurd hdj hd
            · exact getD_set_other _ hji)]
          have h2 := hi.tmps t
          have same : (a.put o.dst v).tmps[t]?.getD undef = a.tmps[t]?.getD undef := by
            cases hdd : o.dst with
            | none => rfl
            | some d =>
              have hne : d ≠ t := fun e => hd (by rw [hdd, e])
              simp [Act.put, Array.getElem?_setIfInBounds_ne hne]
          rw [same]
          revert h2
          cases hlw : lastW ops (fun j => listed.getD j false) t with
          | none => exact id
          | some j =>
            have hlj := lastW_listed hlw
            refine hww j ?_ hlj _
            intro e
            subst e
            rw [hun'] at hlj
            cases hlj
    unfold wpOp
    simp only [ho]
    cases kd with
    | big =>
      obtain ⟨hgn, hgoal⟩ := hgoal
      have hnb := noBig (by simp)
      rw [if_pos (by simp [Region.wanted, hgn])]
      refine .inl (hgoal a w (hi.early hnb) hD _ fun v w' hrp hv => ?_)
      have hbig : BigIn ks (listed.setIfInBounds i true) := ⟨i, hki, getD_set_self (by rw [hi.lsize]; exact hisz) _⟩
      exact next v w' (fun j _ hl u hu => hst j (notBig j hl hnb) w w' u (.inr hrp) hu) (fun h => absurd hbig h) (fun _ => ⟨w, hi.early hnb, hrp⟩) hv
    | plain =>
      have hnb := noBig (by simp)
      have hgoal := hgoal a w (hi.early hnb) hD
      have hs := bigSet rfl (by simp)
      have nx : ∀ v w', R w w' → V i w' v → wpAny P .any ops Q fuel (listed.setIfInBounds i true) (a.put o.dst v) w' := fun v w' hr hv =>
        next v w' (fun j _ hl u hu => hst j (notBig j hl hnb) w w' u (.inl hr) hu) (fun _ => htr _ _ _ (hi.early hnb) hr) (fun h => absurd (hs.1 h) hnb) hv
      cases hgg : o.guard with
      | none =>
        rw [hgg] at hg
        cases g with
        | some _ => simp at hg
        | none =>
          rw [if_pos (by simp [Region.wanted, hgg])]
          exact .inl (hgoal _ nx)
      | some kw =>
        obtain ⟨k, want⟩ := kw
        rw [hgg] at hg
        cases g with
        | none => simp at hg
        | some tw =>
          obtain ⟨t, want'⟩ := tw
          simp only [Bool.and_eq_true, beq_iff_eq] at hg
          obtain ⟨rfl, hk⟩ := hg
          have hw := wanted_iff (a := a) hgg hk
          by_cases hv : a.tmps[t]?.getD undef = .bool want
          · rw [if_pos (hw.2 hv)]
            exact .inl (hgoal.1 hv _ nx)
          · rw [if_neg (fun h => hv (hw.1 h))]
            exact nx undef w (hrf w) (hgoal.2 hv)
    | float =>
      have hgoal := hgoal a w (by
        by_cases hbi : BigIn ks listed
        · exact .inr (hi.late hbi)
        · exact .inl (hi.early hbi)) hD
      have hs := bigSet rfl (by simp)
      have nx : ∀ v w', w' = w → V i w' v → wpAny P .any ops Q fuel (listed.setIfInBounds i true) (a.put o.dst v) w' := fun v w' hr hv => by
        subst hr
        exact next v w' (fun j _ _ u hu => hu) (fun h => hi.early (fun hb => h (hs.2 hb))) (fun h => hi.late (hs.1 h)) hv
      cases hgg : o.guard with
      | none =>
        rw [hgg] at hg
        cases g with
        | some _ => simp at hg
        | none =>
          rw [if_pos (by simp [Region.wanted, hgg])]
          exact .inl (hgoal _ nx)
      | some kw =>
        obtain ⟨k, want⟩ := kw
        rw [hgg] at hg
        cases g with
        | none => simp at hg
        | some tw =>
          obtain ⟨t, want'⟩ := tw
          simp only [Bool.and_eq_true, beq_iff_eq] at hg
          obtain ⟨rfl, hk⟩ := hg
          have hw := wanted_iff (a := a) hgg hk
          by_cases hv : a.tmps[t]?.getD undef = .bool want
          · rw [if_pos (hw.2 hv)]
            exact .inl (hgoal.1 hv _ nx)
          · rw [if_neg (fun h => hv (hw.1 h))]
            exact nx undef w rfl (hgoal.2 hv)
end

section
variable {P : Program} {Q : Exit → Act → World → Prop} {V : Nat → World → Value → Prop} {a0 : Act} {w0 : World} {E : Act → World → Prop}
theorem wp_region_bigF {id : Nat} {n : Nat} (ks : List Phase) (V : Nat → World → Value → Prop) (R Rp : World → World → Prop) (reads : List (Reads × GuardT)) (fin : List (Tmp × Nat)) {l : List Oper} (tail : List Oper) (hn : a0.tmps.size = n) (hk : regionOk l.toArray reads fin n = true) (hd : l.drop reads.length = tail) (hm : P.follows .mixedOrders = true)
    (hrf : ∀ w, R w w) (htr : ∀ a b c, R a b → R b c → R a c) (hK : phaseOk (mkAnc l) ks reads.length = true) (hb : ks.contains .big = true)
    (hst : ∀ i, ks[i]? ≠ some .big → ∀ w w' v, R w w' ∨ Rp w w' → V i w v → V i w' v)
    (hops : PhHoldF P Q R Rp V a0 w0.drew 0 l reads ks)
    (hend : EndHold (fun w w' => ∃ w1, R w w1 ∧ Rp w1 w') V w0.drew (wpList P l.toArray Q tail) (fun _ => True) fin a0) :
    (Code.region id l.toArray true).wp P Q a0 w0 := by
  subst hn
  subst hd
  simp only [regionOk, Bool.and_eq_true] at hk
  obtain ⟨⟨⟨⟨hA, hP⟩, hR⟩, hF⟩, hT⟩ := hk
  refine wp_region_any hm ?_
  refine wpAny_invF (Rp := Rp) (ks := ks) (w0 := w0.drew) hA hP hR hT hrf htr hK hst hops ?_ _ _ _ _ (Nat.le_trans List.count_le_length (by simp)) ⟨fun _ => hrf _, ?_, rfl, rfl, by simp, ?_, ?_, ?_⟩
  · intro listed a w hl hi
    simp only [finalOk, Bool.and_eq_true, List.all_eq_true, beq_iff_eq] at hF
    have hF2 : ∀ (j : Nat) (o : Oper) (t : Tmp), l.toArray[j]? = some o → j < reads.length → o.dst = some t → t ∈ fin.map (·.1) := by
      intro j o t ho hj hd
      have := hF.2 o (by
        have h1 : (l.take reads.length)[j]? = some o := by rw [List.getElem?_take_of_lt hj]; simpa using ho
        exact List.mem_of_getElem? h1)
      rw [hd] at this
      simpa using this
    have hlast : ∀ t, lastW l.toArray (fun j => listed.getD j false) t = lastW l.toArray (fun j => decide (j < reads.length)) t := fun t =>
      lastW_congr fun j o ho _ => hl j
    have e : fin.foldl (fun a' x => a'.put (some x.1) ((fun t => a.tmps[t]?.getD undef) x.1)) a0 = a := by
      have h := foldl_put (fun t => a.tmps[t]?.getD undef) fin a0
      have hd : (fin.foldl (fun a' x => a'.put (some x.1) ((fun t => a.tmps[t]?.getD undef) x.1)) a0).defers = a.defers := h.2.1.trans hi.defers.symm
      have ht : (fin.foldl (fun a' x => a'.put (some x.1) ((fun t => a.tmps[t]?.getD undef) x.1)) a0).tmps = a.tmps := by
        refine Array.ext_getElem? fun t => ?_
        rcases Nat.lt_or_ge t a0.tmps.size with hlt | hge
        · rw [h.2.2 t hlt]
          have hat : a.tmps[t]? = some (a.tmps[t]?.getD undef) := by
            have : t < a.tmps.size := by rw [hi.size]; exact hlt
            simp [this]
          by_cases hm : t ∈ fin.map (·.1)
          · rw [if_pos hm]; exact hat.symm
          · rw [if_neg hm]
            have h2 := hi.tmps t
            have hnone : lastW l.toArray (fun j => listed.getD j false) t = none := by
              unfold lastW
              rw [List.find?_eq_none]
              intro j _
              cases ho : l.toArray[j]? with
              | none => simp
              | some o =>
                by_cases hdo : o.dst = some t
                · rcases Nat.lt_or_ge j reads.length with hj | hj
                  · exact absurd (hF2 j o t ho hj hdo) hm
                  · simp only [hi.tail j hj]; simp
                · simp [hdo]
            rw [hnone] at h2
            rw [hat, h2]
            simp [hlt]
        · rw [Array.getElem?_eq_none (by rw [h.1]; exact hge), Array.getElem?_eq_none (by rw [hi.size]; exact hge)]
      generalize fin.foldl (fun a' x => a'.put (some x.1) ((fun t => a.tmps[t]?.getD undef) x.1)) a0 = z at hd ht
      cases z; cases a; simp_all
    have hbin : BigIn ks listed := by
      have hmem := List.contains_iff_mem.1 hb
      obtain ⟨p, hp⟩ := List.mem_iff_getElem?.1 hmem
      refine ⟨p, hp, ?_⟩
      rw [hl p]
      have h1 := (List.getElem?_eq_some_iff.1 hp).1
      have h2 := hK
      simp only [phaseOk, Bool.and_eq_true, beq_iff_eq] at h2
      simp; omega
    have := endHold_at (fun t => a.tmps[t]?.getD undef) w (hi.late hbin) fin _ a0 hend trivial (fun x hx => by
      have h1 := hF.1 x hx
      have h2 := hi.tmps x.1
      rw [hlast, h1] at h2
      exact h2)
    rw [e] at this
    exact this
  · rintro ⟨p, _, hp⟩
    exfalso
    rcases Nat.lt_or_ge p l.length with h | h
    · simp [h] at hp
    · simp [h] at hp
  · intro j o ho hl
    exfalso
    have hj : j < l.length := by simpa using (Array.getElem?_eq_some_iff.1 ho).1
    simp [hj] at hl
  · intro j _
    rcases Nat.lt_or_ge j l.length with h | h
    · simp [h]
    · simp [h]
  · intro t
    have : lastW l.toArray (fun j => (Array.replicate l.toArray.size false).getD j false) t = none := by
      unfold lastW
      rw [List.find?_eq_none]
      intro j hj
      have hj : j < l.length := by simpa using hj
      simp [hj]
    rw [this]


end

theorem region_bigF {P : Program} {Q : Exit → Act → World → Prop} {a0 : Act} {w0 : World} {id : Nat} {n : Nat} {l : List Oper} (Rp : World → World → Prop) (ks : List Phase) (Vs : List (World → Value → Prop)) (reads : List (Reads × GuardT)) (fin : List (Tmp × Nat))
    (hn : a0.tmps.size = n) (hk : regionOk l.toArray reads fin n = true) (hK : phaseOk (mkAnc l) ks reads.length = true) (hb : ks.contains .big = true) (hm : P.follows .mixedOrders = true) (hv : ks.length = Vs.length)
    (hst : StableB Grew Rp ks Vs)
    (hops : PhHoldF P Q Grew Rp (at_ Vs) a0 w0.drew 0 l reads ks)
    (hend : EndHold (fun w w' => ∃ w1, Grew w w1 ∧ Rp w1 w') (at_ Vs) w0.drew (Later (wpList P l.toArray Q (dropN reads l))) (fun _ => True) fin a0) :
    (Code.region id l.toArray true).wp P Q a0 w0 :=
  wp_region_bigF ks (at_ Vs) Grew Rp reads fin _ hn hk (dropN_eq reads l) hm Grew.refl (fun _ _ _ => Grew.trans) hK hb (stableB_at ks Vs hv hst) hops (endHold_later _ _ _ hend)
end Go.Proofs.YtmifoihfpjomaaaR

-- AudE
namespace Go.Proofs.Ytmifoihfpjomaaa.F
open Go Go.RowKit Go.Proofs.YtmifoihfpjomaaaW.PrintWords Go.Proofs.YtmifoihfpjomaaaW.PrintLast Go.Proofs.YtmifoihfpjomaaaW.PrintMore Go.Proofs.YtmifoihfpjomaaaM Go.Proofs.YtmifoihfpjomaaaR
attribute [local go_sem] max2_int min2_int max_two min_two
set_option linter.unusedSimpArgs false
set_option linter.unusedVariables false
set_option maxRecDepth 100000
def enc5 (e : En) : List Value := [.int .i64 e.f0, .int .i64 e.f1, .int .i64 e.f2, .string e.f3, .int .i64 e.f4]
def ens (l : List En) : List Value := l.flatMap enc5
theorem ens_snoc (l : List En) (e : En) : ens (l ++ [e]) = ens l ++ enc5 e := by simp [ens]
theorem ens_cons (e : En) (l : List En) : ens (e :: l) = enc5 e ++ ens l := by simp [ens]
theorem ens_len (l : List En) : (ens l).length = l.length * 5 := by
  induction l with
  | nil => rfl
  | cons x l ih => rw [ens_cons, List.length_append, ih, List.length_cons]; simp [enc5]; omega
theorem ens_at (l : List En) : ∀ (i : Nat) (e : En), l[i]? = some e → ∀ j, j < 5 → (ens l)[i * 5 + j]? = (enc5 e)[j]? := by
  induction l with
  | nil => intro i x h; simp at h
  | cons y l ih =>
    intro i e h j hj
    rw [ens_cons]
    cases i with
    | zero =>
      obtain rfl : y = e := by simpa using h
      rw [Nat.zero_mul, Nat.zero_add, List.getElem?_append_left (by simp [enc5]; omega)]
    | succ i =>
      rw [List.getElem?_append_right (by simp [enc5]; omega)]
      have := ih i e (by simpa using h) j hj
      rw [← this]
      congr 1
      simp [enc5]; omega
theorem ens_drop (l : List En) : ∀ m, (ens l).drop (m * 5) = ens (l.drop m) := by
  induction l with
  | nil => intro m; simp [ens]
  | cons y l ih =>
    intro m
    cases m with
    | zero => simp
    | succ m =>
      rw [ens_cons, show (m + 1) * 5 = 5 + m * 5 from by omega, ← List.drop_drop, show List.drop 5 (enc5 y ++ ens l) = ens l from rfl, ih m]
      rfl
theorem ens_one (l : List En) : ∀ u ∈ ens l, u.oneCell' = true := by
  intro u hu
  unfold ens at hu
  obtain ⟨x, -, hx⟩ := List.mem_flatMap.1 hu
  simp [enc5] at hx
  rcases hx with rfl | rfl | rfl | rfl | rfl <;> rfl
theorem enc5_one (e : En) : ∀ u ∈ enc5 e, u.oneCell' = true := by
  intro u hu
  simp [enc5] at hu
  rcases hu with rfl | rfl | rfl | rfl | rfl <;> rfl
/-- a row of one's own of entries is read -/
theorem rowO_C {w : World} {base n : Nat} {v : Value} {l : List En} (h : RowO w base 36 5 v n (ens l)) (hn : l.length = n) : ∃ A c, v = .slice A n c ∧ n ≤ c ∧ Kd.C k36 w A n l := by
  have hle := h.slice
  rcases h.2 with ⟨rfl, rfl⟩ | ⟨g, o, cap, cur, rfl, hb, hh, hnc, hcm, hs, hx⟩
  · refine ⟨none, 0, rfl, Nat.le_refl _, hn, by omega, fun hp => absurd hp (by omega)⟩
  · refine ⟨_, cap, rfl, hnc, hn, by unfold maxLen at hcm; omega, fun hp => ⟨_, rfl, fun j p hj => ⟨enc5 p, rfl, ?_, fun i u hu => ?_⟩⟩⟩
    · exact k36_mk w p
    · have hi : i < 5 := (List.getElem?_eq_some_iff.1 hu).1
      have hjl := (List.getElem?_eq_some_iff.1 hj).1
      obtain ⟨g', o', cap', hv, _, _, _, hcell, _⟩ := h.at_ hp
      injection hv with hv1 hv2 hv3
      injection hv1 with hv1
      injection hv1 with hv1 hv4
      subst hv1 hv4
      have := hcell (j * 5 + i) (by omega)
      rw [ens_at l j p hj i hi, hu] at this
      rw [← this]
      show w.cell? (Addr.add ⟨g, o, none⟩ (j * 5 + i)) = _
      congr 1
      simp [Addr.add]
theorem C_ens {w : World} {A : Option Addr} {n : Nat} {l : List En} (h : Kd.C k36 w A n l) (hp : 0 < n) : ∃ ad, A = some ad ∧ ∀ j u, (ens l)[j]? = some u → w.cell? (ad.add j) = some u := by
  obtain ⟨hl, hm, hc⟩ := h
  obtain ⟨ad, hA, hcell⟩ := hc hp
  refine ⟨ad, hA, fun j u hu => ?_⟩
  have hj : j < l.length * 5 := by rw [← ens_len]; exact (List.getElem?_eq_some_iff.1 hu).1
  have hjl : j / 5 < l.length := by omega
  obtain ⟨c, hcs, hR, hcc⟩ := hcell (j / 5) _ (List.getElem?_eq_getElem hjl)
  obtain rfl := k36_open hR
  have h1 := ens_at l (j / 5) _ (List.getElem?_eq_getElem hjl) (j % 5) (Nat.mod_lt _ (by omega))
  rw [show j / 5 * 5 + j % 5 = j from by omega, hu] at h1
  have := hcc (j % 5) u h1.symm
  rw [show k36.sz = 5 from rfl] at this
  rw [show j / 5 * 5 + j % 5 = j from by omega] at this
  exact this
theorem infoEn : (Try.prog.info? 36).map (fun i => (i.zero, i.size, i.bytes)) = some (some (.agg #[.int .i64 0, .int .i64 0, .int .i64 0, .string ⟨#[]⟩, .int .i64 0]), 5, 48) := by kernel_rfl
/-- the entry as it is numbered, and the audit behind it -/
def nextE (last : Int) (e : En) : En := ⟨last + 1, e.f1, e.f2, e.f3, e.f4⟩
def addP (a : ByteArray) (last : Int) (l : List En) (e : En) : Option (ByteArray × List En) :=
  if mayP a last l && goodP (nextE last e) then some (if l.length = 8 then (strOfNums (sealL (bytesOf a) (bytesE (l.getD 0 z36))), l.drop 1 ++ [nextE last e]) else (a, l ++ [nextE last e])) else none
def zA : List Value := [.string ⟨#[]⟩, .int .i64 0, .slice none 0 0]
def AddV (base : Nat) (last : Int) : Option (ByteArray × List En) → World → Value → Prop
  | none => fun _ v => v = .tuple #[.agg #[.string ⟨#[]⟩, .int .i64 0, .slice none 0 0], .int .i64 1]
  | some r => fun w v => ∃ v0, v = .tuple #[.agg #[.string r.1, .int .i64 (last + 1), v0], .int .i64 0] ∧ RowO w base 36 5 v0 r.2.length (ens r.2)
/-- the row behind an append -/
def AppO (base : Nat) (e : TypeId) (size : Nat) (cs : List Value) (n : Nat) (vb : Value) (N : Nat) : World → Value → Prop := fun w v => RowO w base e size v n cs ∧ (v.ownBlock = vb.ownBlock ∨ ∃ k, v.ownBlock = some k ∧ N ≤ k)
theorem emptyE (w : World) (base : Nat) (hb : base ≤ w.heap.size) : (w.alloc (.cells #[] 36)).ownsRow base 36 5 (.slice (some ⟨w.heap.size, 0, none⟩) 0 0) 0 [] :=
  ⟨rfl, .inr ⟨w.heap.size, 0, #[], rfl, hb, Blk.new w 36 [], Nat.le_refl _, by unfold maxLen; omega, rfl, rfl⟩⟩
theorem zA_one (s : ByteArray) (i : Int) (A : Option Addr) (n c : Nat) : [Value.string s, .int .i64 i, .slice A n c].toArray.all (·.oneCell') = true := by simp [Value.oneCell']
end Go.Proofs.Ytmifoihfpjomaaa.F
