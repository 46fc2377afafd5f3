/- Texts of this seat laid together: F16, F17, ShaD, ShaH, ShaW, ShaU, ShaV, ShaE, ShaY, ShaL, ShaR, ShaZ, ShaJ, RegQ. -/
import Derived.Test.YtphkohdfdkmpcaaSA
import Derived.ArgAppend
import Derived.Lib.Bytes

-- F16
namespace Go.Proofs.Ytphkohdfdkmpcaa.F
open Go.RowKit Go.Proofs.YtphkohdfdkmpcaaW.PrintWords Go.Proofs.YtphkohdfdkmpcaaW.PrintLast Go.Proofs.YtphkohdfdkmpcaaW.PrintMore
attribute [local go_sem] max2_int min2_int max_two min_two max_three min_three max_four min_four   -- for this text's walks alone
set_option linter.unusedVariables false
set_option linter.unusedSimpArgs false

/-! ### sha_Pad: function 16 -/
mutual
def sha_Pad.l0 : Nat → Int → List Int → Option (List Int)
  | 0, _, _ => none
  | k + 1, x0, x3 => if (Int.tmod (wrap64 ((wrap64 ((Int.tmod x0 64) + (x3.length : Int))) + 8)) 64) = 0 then (sha_Pad.l1 k x3 (IntKind.u64.wrap ((IntKind.u64.wrap (x0)) * 8)) 0) else (if x3.length < 140737488355328 then (sha_Pad.l0 k x0 (x3 ++ [0])) else (none))
def sha_Pad.l1 : Nat → List Int → Int → Int → Option (List Int)
  | 0, _, _, _ => none
  | k + 1, x3, x4, x23 => if x23 < 8 then (if 0 ≤ (wrap64 (56 - (wrap64 (8 * x23)))) then (if x3.length < 140737488355328 then (sha_Pad.l1 k (x3 ++ [(shr .u64 x4 (wrap64 (56 - (wrap64 (8 * x23))))) % 256]) x4 (wrap64 (x23 + 1))) else (none)) else (none)) else (some x3)
end
def sha_Pad.f (k : Nat) (a0 : Int) : Option (List Int) := if a0 < 0 then (some ([] : List Int)) else (sha_Pad.l0 k a0 (([128] : List Int)))
set_option maxHeartbeats 8000000 in
set_option maxRecDepth 100000 in
theorem sha_Pad.calls (k : Nat) (a0 : Int) (r : List Int) (w : World) (h : sha_Pad.f k a0 = some r) :
    Calls Try.prog 16 #[.int .i64 a0] w fun e w' => ∃ v0_ : Value, e = .returned (v0_) ∧ Kd.R (Kd.int .u8) 5 w' w.heap.size (fun _ => True) v0_ r ∧ Below w.heap.size w w' := by
  have HB := Aside0.mk (Below.refl w.heap.size w)
  have H : (if a0 < 0 then (some ([] : List Int)) else (sha_Pad.l0 k a0 (([128] : List Int)))) = some r := h
  clear h
  by_cases c2 : a0 < 0
  · rw [if_pos c2] at H
    have c2b0 : decide (a0 < 0) = true := decide_eq_true c2
    clear c2
    obtain rfl := Option.some.inj H
    go_enter Try.func16, Try.ntmps16
    go_wp2
    go_ret
    exact ⟨_, by first | rfl | (simp [errW_none, errW_some] <;> rfl) | (simp [*, errW_none, errW_some] <;> rfl), by first | exact Kd.R_nil _ _ _ _ _ | exact Kd.N_nil _ _ _ _ _ | exact Kd.V_nil _ _ _ _ _ | exact Kd.Q_nil _ _ _ _ _ | exact Kd.S_nil _ _ _ _ _, by repeat (first | (with_reducible first | exact HB.out | apply below_alloc | apply pw_below_drewN | apply below_drew1) | exact HB.out)⟩
  · rw [if_neg c2] at H
    have c2b0 : decide (a0 < 0) = false := decide_eq_false c2
    clear c2
    obtain ⟨y111, hy111⟩ : ∃ y_ : List Int, y_ = (([128] : List Int)) := ⟨_, rfl⟩
    replace H : (sha_Pad.l0 k a0 y111) = some r := by first | (rw [hy111]; with_reducible exact H) | (have H2_ := (Option.bind_some _ _).symm.trans H; rw [hy111]; with_reducible exact H2_) | (have H2_ := (Option.bind_some _ _).symm.trans H; with_reducible exact H2_) | with_reducible exact H | (rw [hy111]; exact H) | exact H
    have Ny111 := Aside0.mk hy111
    clear hy111
    have H' := Aside0.mk H
    clear H
    go_enter Try.func16, Try.ntmps16
    go_wp2_with (first | ((with_reducible refine gate_dst (N := 8) rfl ?_); refine Kd.R_lit (Kd.int .u8) _ 5 ?hg (N := 8) ?hd (xs := ([128] : List Int)) (inner := [.int .u8 128]) (ok := fun _ => True) (okp := fun _ => True) ?hr ?hp (fun _ hk => hk) trivial (Below.refl _ _) (Nat.le_refl _) (by simp) ?_; (case hd => rfl); (case hg => rfl); (case hr => first | (go_simp; done) | (go_simp; rfl)); (case hp => exact (Reps.one (show Kd.M (Kd.int .u8) _ _ _ 128 [.int .u8 128] from rfl) (Reps.none _ _))); intro v112 w3 ho4 hb hg_ hnew_; clear hg_ hnew_; (first | rw [← Ny111.out] at ho4 | (simp only [Int.reduceToNat] at ho4; rw [← Ny111.out] at ho4)); have n0_ := Aside0.mk (Kd.R_lower ho4 (below_size (by repeat (first | (with_reducible first | exact HB.out | apply below_alloc | apply pw_below_drewN | apply below_drew1) | exact HB.out)))); have n1_ := Aside0.mk (below_step (by repeat (first | (with_reducible first | exact HB.out | apply below_alloc | apply pw_below_drewN | apply below_drew1) | exact HB.out)) hb); clear HB; have HO113 := n0_; have HB := n1_; clear n0_ n1_; clear hb ho4))
    go_loopg [3] k (fun kq v3 w' => ∃ (x3_1 : List Int), Aside0 (sha_Pad.l0 kq a0 x3_1 = some r) ∧ Aside0 (kq ≤ k) ∧ Aside0 (Kd.R (Kd.int .u8) 5 w' w.heap.size (fun _ => True) v3 x3_1) ∧ Aside0 (Below w.heap.size w w'))
    case atStart => exact ⟨(y111), H', ⟨Nat.le_refl _⟩, ⟨by (with_reducible repeat (first | apply Kd.R_alloc | apply Kd.R_drewN | apply Kd.R_drew)); exact HO113.out⟩, ⟨by repeat (first | (with_reducible first | exact HB.out | apply below_alloc | apply pw_below_drewN | apply below_drew1) | exact HB.out)⟩⟩
    case round =>
      clear H'
      try clear c1
      try clear c2
      try clear c2b0
      try clear p2
      obtain ⟨x3_1, HA, HK1, HO_3, HB⟩ := hrel
      cases gk with
      | zero => exact absurd HA.out (by simp [sha_Pad.l0])
      | succ k1 =>
        have H := HA.out
        clear HA
        simp only [sha_Pad.l0] at H
        by_cases c5 : (Int.tmod (wrap64 ((wrap64 ((Int.tmod a0 64) + (x3_1.length : Int))) + 8)) 64) = 0
        · rw [if_pos c5] at H
          have c5b0 : ((Int.tmod (wrap64 ((wrap64 ((Int.tmod a0 64) + (x3_1.length : Int))) + 8)) 64) == 0) = true := beq_iff_eq.mpr c5
          have c5b1 : ((Int.tmod (wrap64 ((wrap64 ((Int.tmod a0 64) + (x3_1.length : Int))) + 8)) 64) != 0) = false := bne_eq_false_iff_eq.mpr c5
          clear c5
          have H' := Aside0.mk H
          clear H
          obtain ⟨Ao6, co6, eo6⟩ := Kd.R_slice HO_3.out
          subst eo6
          go_wp2
          go_loopg [3, 23] k1 (fun kq v3 v23 w' => ∃ (x3_2 : List Int) (x23_2 : Int), v23 = .int .i64 x23_2 ∧ Aside0 (sha_Pad.l1 kq x3_2 (IntKind.u64.wrap ((IntKind.u64.wrap (a0)) * 8)) x23_2 = some r) ∧ Aside0 (kq ≤ k1) ∧ Aside0 (Kd.R (Kd.int .u8) 5 w' w.heap.size (fun _ => True) v3 x3_2) ∧ Aside0 (Below w.heap.size w w'))
          case atStart => exact ⟨(x3_1), (0), (by first | rfl | (simp; done) | (simp [*]; done)), H', ⟨Nat.le_refl _⟩, ⟨by (with_reducible repeat (first | apply Kd.R_alloc | apply Kd.R_drewN | apply Kd.R_drew)); exact HO_3.out⟩, ⟨by repeat (first | (with_reducible first | exact HB.out | apply below_alloc | apply pw_below_drewN | apply below_drew1) | exact HB.out)⟩⟩
          case round =>
            clear H'
            try clear c1
            try clear c2
            try clear c2b0
            try clear p2
            try clear c5
            try clear c5b0
            try clear c5b1
            try clear p6
            try clear p2
            obtain ⟨x3_2, x23_2, rfl, HA, HK2, HO_3, HB⟩ := hrel
            cases gk with
            | zero => exact absurd HA.out (by simp [sha_Pad.l1])
            | succ k2 =>
              have H := HA.out
              clear HA
              simp only [sha_Pad.l1] at H
              by_cases c7 : x23_2 < 8
              · rw [if_pos c7] at H
                have c7b0 : decide (x23_2 < 8) = true := decide_eq_true c7
                clear c7
                obtain ⟨ji8, hji8⟩ : ∃ j_ : Int, (wrap64 (56 - (wrap64 (8 * x23_2)))) = j_ := ⟨_, rfl⟩
                replace H : (if 0 ≤ (ji8) then (if x3_2.length < 140737488355328 then (sha_Pad.l1 k2 (x3_2 ++ [(shr .u64 (IntKind.u64.wrap ((IntKind.u64.wrap (a0)) * 8)) (ji8)) % 256]) (IntKind.u64.wrap ((IntKind.u64.wrap (a0)) * 8)) (wrap64 (x23_2 + 1))) else (none)) else (none)) = some r := by first | (rw [hji8] at H; exact H) | (simp only [hji8] at H ⊢; exact H)
                have hji8w : (IntKind.i64.wrap (56 - (wrap64 (8 * x23_2)))) = ji8 := (i64_w _).trans hji8
                by_cases c9 : 0 ≤ (ji8)
                · rw [if_pos c9] at H
                  have c9b0 := eq_true c9
                  have c9b1 : decide (0 ≤ (ji8)) = true := decide_eq_true c9
                  clear c9
                  obtain ⟨ji10, hji10⟩ : ∃ j_ : Int, (shr .u64 (IntKind.u64.wrap ((IntKind.u64.wrap (a0)) * 8)) (ji8)) = j_ := ⟨_, rfl⟩
                  replace H : (if x3_2.length < 140737488355328 then (sha_Pad.l1 k2 (x3_2 ++ [(ji10) % 256]) (IntKind.u64.wrap ((IntKind.u64.wrap (a0)) * 8)) (wrap64 (x23_2 + 1))) else (none)) = some r := by first | (rw [hji10] at H; exact H) | (simp only [hji10] at H ⊢; exact H)
                  have hji10_ : ((IntKind.u64.wrap ((IntKind.u64.wrap (a0)) * 8)) / 2 ^ min (ji8).toNat 64) = ji10 := hji10
                  have hji10z : (ji8) ≤ 64 → ((IntKind.u64.wrap ((IntKind.u64.wrap (a0)) * 8)) / 2 ^ (ji8).toNat) = ji10 := shr_small hji10
                  by_cases c11 : x3_2.length < 140737488355328
                  · rw [if_pos c11] at H
                    have LMc11 := Aside0.mk c11
                    clear c11
                    obtain ⟨y117, hy117⟩ : ∃ y_ : List Int, y_ = (x3_2 ++ [(ji10) % 256]) := ⟨_, rfl⟩
                    replace H : (sha_Pad.l1 k2 y117 (IntKind.u64.wrap ((IntKind.u64.wrap (a0)) * 8)) (wrap64 (x23_2 + 1))) = some r := by first | (rw [hy117]; with_reducible exact H) | (have H2_ := (Option.bind_some _ _).symm.trans H; rw [hy117]; with_reducible exact H2_) | (have H2_ := (Option.bind_some _ _).symm.trans H; with_reducible exact H2_) | with_reducible exact H | (rw [hy117]; exact H) | exact H
                    have Ny117 := Aside0.mk hy117
                    clear hy117
                    have H' := Aside0.mk H
                    clear H
                    go_wp2_with (first | ((with_reducible refine gate_builtin (b := .append) (xs := #[.tmp 26, .tmp 33]) rfl ?_); at_builtin; refine Kd.R_append (Kd.int .u8) (w0 := w) w.heap.size rfl (.tmp 26) (.tmp 33) 28 5 (.int .u8 0) 1 rfl Try.underlying28 info5 rfl (by decide) (by omega) u3 x3_2 ((ji10) % 256) [.int .u8 ((ji10) % 256)] (fun _ => True) (fun _ => False) rfl rfl ?aP (fun _ hk => hk.elim) ?aF ?aO ?aB ?aS ?aL ?_; (case aP => exact rfl); (case aB => exact (by repeat (first | (with_reducible first | exact HB.out | apply below_alloc | apply pw_below_drewN | apply below_drew1) | exact HB.out))); (case aF => exact (fun _ _ => trivial)); (case aO => exact (by (with_reducible repeat (first | apply Kd.R_alloc | apply Kd.R_drewN | apply Kd.R_drew)); exact HO_3.out)); (case aS => exact (below_size (by repeat (first | (with_reducible first | exact HB.out | apply below_alloc | apply pw_below_drewN | apply below_drew1) | exact HB.out)))); (case aL => have := LMc11.out; omega); intro v118 w12 ho hb hg hat; rw [← Ny117.out] at ho; have n0_ := Aside0.mk (hb); have n1_ := Aside0.mk (ho); clear HB; clear HO_3; have HB := n0_; have HO119 := n1_; clear n0_ n1_; clear ho hb hg hat))
                    go_roundg k2
                    case measure => have := HK1.out; have := HK2.out; omega
                    case rel => exact ⟨(y117), (wrap64 (x23_2 + 1)), (by first | rfl | (simp; done) | (simp [*]; done)), H', ⟨by have := HK1.out; have := HK2.out; omega⟩, ⟨by (with_reducible repeat (first | apply Kd.R_alloc | apply Kd.R_drewN | apply Kd.R_drew)); exact HO119.out⟩, ⟨by repeat (first | (with_reducible first | exact HB.out | apply below_alloc | apply pw_below_drewN | apply below_drew1) | exact HB.out)⟩⟩
                  · rw [if_neg c11] at H
                    exact absurd H (by simp)
                · rw [if_neg c9] at H
                  exact absurd H (by simp)
              · rw [if_neg c7] at H
                have c7b0 : decide (x23_2 < 8) = false := decide_eq_false c7
                clear c7
                obtain rfl := Option.some.inj H
                go_wp2
                go_ret
                exact ⟨_, by first | rfl | (simp [errW_none, errW_some] <;> rfl) | (simp [*, errW_none, errW_some] <;> rfl), by (with_reducible repeat (first | apply Kd.R_alloc | apply Kd.R_drewN | apply Kd.R_drew)); exact HO_3.out, by repeat (first | (with_reducible first | exact HB.out | apply below_alloc | apply pw_below_drewN | apply below_drew1) | exact HB.out)⟩
        · rw [if_neg c5] at H
          have c5b0 : ((Int.tmod (wrap64 ((wrap64 ((Int.tmod a0 64) + (x3_1.length : Int))) + 8)) 64) == 0) = false := beq_eq_false_iff_ne.mpr c5
          have c5b1 : ((Int.tmod (wrap64 ((wrap64 ((Int.tmod a0 64) + (x3_1.length : Int))) + 8)) 64) != 0) = true := bne_iff_ne.mpr c5
          by_cases c13 : x3_1.length < 140737488355328
          · rw [if_pos c13] at H
            have LMc13 := Aside0.mk c13
            clear c13
            obtain ⟨y114, hy114⟩ : ∃ y_ : List Int, y_ = (x3_1 ++ [0]) := ⟨_, rfl⟩
            replace H : (sha_Pad.l0 k1 a0 y114) = some r := by first | (rw [hy114]; with_reducible exact H) | (have H2_ := (Option.bind_some _ _).symm.trans H; rw [hy114]; with_reducible exact H2_) | (have H2_ := (Option.bind_some _ _).symm.trans H; with_reducible exact H2_) | with_reducible exact H | (rw [hy114]; exact H) | exact H
            have Ny114 := Aside0.mk hy114
            clear hy114
            have H' := Aside0.mk H
            clear H
            obtain ⟨Ao14, co14, eo14⟩ := Kd.R_slice HO_3.out
            subst eo14
            go_wp2_with (first | ((with_reducible refine gate_builtin (b := .append) (xs := #[.tmp 17, .tmp 18]) rfl ?_); at_builtin; refine Kd.R_append (Kd.int .u8) (w0 := w) w.heap.size rfl (.tmp 17) (.tmp 18) 28 5 (.int .u8 0) 1 rfl Try.underlying28 info5 rfl (by decide) (by omega) (.slice Ao14 x3_1.length co14) x3_1 0 [.int .u8 0] (fun _ => True) (fun _ => False) rfl rfl ?aP (fun _ hk => hk.elim) ?aF ?aO ?aB ?aS ?aL ?_; (case aP => exact rfl); (case aB => exact (by repeat (first | (with_reducible first | exact HB.out | apply below_alloc | apply pw_below_drewN | apply below_drew1) | exact HB.out))); (case aF => exact (fun _ _ => trivial)); (case aO => exact (by (with_reducible repeat (first | apply Kd.R_alloc | apply Kd.R_drewN | apply Kd.R_drew)); exact HO_3.out)); (case aS => exact (below_size (by repeat (first | (with_reducible first | exact HB.out | apply below_alloc | apply pw_below_drewN | apply below_drew1) | exact HB.out)))); (case aL => have := LMc13.out; omega); intro v115 w15 ho hb hg hat; rw [← Ny114.out] at ho; have n0_ := Aside0.mk (hb); have n1_ := Aside0.mk (ho); clear HB; clear HO_3; have HB := n0_; have HO116 := n1_; clear n0_ n1_; clear ho hb hg hat))
            go_roundg k1
            case measure => have := HK1.out; omega
            case rel => exact ⟨(y114), H', ⟨by have := HK1.out; omega⟩, ⟨by (with_reducible repeat (first | apply Kd.R_alloc | apply Kd.R_drewN | apply Kd.R_drew)); exact HO116.out⟩, ⟨by repeat (first | (with_reducible first | exact HB.out | apply below_alloc | apply pw_below_drewN | apply below_drew1) | exact HB.out)⟩⟩
          · rw [if_neg c13] at H
            exact absurd H (by simp)

-- NOT PRINTED: function 22 (sha_Hash_Sum)

-- NOT PRINTED: function 18 (sha_Sum)

-- NOT PRINTED: function 13 (strongroomlaw02_lives)

-- NOT PRINTED: function 3 (strongroomlaw02_ShaPrimes)

end Go.Proofs.Ytphkohdfdkmpcaa.F

-- F17
namespace Go.Proofs.Ytphkohdfdkmpcaa.F
open Go.RowKit Go.Proofs.YtphkohdfdkmpcaaW.PrintWords Go.Proofs.YtphkohdfdkmpcaaW.PrintLast Go.Proofs.YtphkohdfdkmpcaaW.PrintMore
attribute [local go_sem] max2_int min2_int max_two min_two max_three min_three max_four min_four   -- for this text's walks alone
set_option linter.unusedVariables false
set_option linter.unusedSimpArgs false

-- NOT PRINTED: function 5 (strongroomlaw02_ShaPads)

end Go.Proofs.Ytphkohdfdkmpcaa.F

-- ShaD
namespace Go.Proofs.Ytphkohdfdkmpcaa.F
open Go Go.RowKit Go.Proofs.YtphkohdfdkmpcaaW.PrintWords Go.Proofs.YtphkohdfdkmpcaaW.PrintLast Go.Proofs.YtphkohdfdkmpcaaW.PrintMore Go.Proofs.YtphkohdfdkmpcaaR
set_option linter.unusedSimpArgs false
set_option linter.unusedVariables false
set_option maxRecDepth 100000
/-- so many bytes of nothing -/
def zN (n : Nat) : Nat := (119 - n % 64) % 64
/-- the eight bytes of a number of bits, from byte i on -/
def bytes8 (m : Nat) (i : Nat) : List Int := (List.range' i (8 - i)).map fun j => ((m / 2 ^ (56 - 8 * j) % 256 : Nat) : Int)
def padL (n : Nat) : List Int := 128 :: (List.replicate (zN n) 0 ++ bytes8 (n * 8 % 18446744073709551616) 0)
theorem padL_len (n : Nat) : (padL n).length = zN n + 9 := by simp [padL, bytes8]
theorem bytes8_succ (m i : Nat) (hi : i < 8) : bytes8 m i = ((m / 2 ^ (56 - 8 * i) % 256 : Nat) : Int) :: bytes8 m (i + 1) := by
  unfold bytes8
  rw [show 8 - i = (8 - (i + 1)) + 1 from by omega, List.range'_succ, List.map_cons]
theorem pad_l1 (m : Nat) : ∀ (j i k : Nat) (x : List Int), 8 - i = j → i ≤ 8 → j < k → x.length + j ≤ 1000 → sha_Pad.l1 k x m i = some (x ++ bytes8 m i) := by
  intro j
  induction j with
  | zero =>
    intro i k x hj hi hk hx
    obtain ⟨k, rfl⟩ : ∃ q, k = q + 1 := ⟨k - 1, by omega⟩
    obtain rfl : i = 8 := by omega
    rw [sha_Pad.l1, if_neg (by omega)]
    simp [bytes8]
  | succ j ih =>
    intro i k x hj hi hk hx
    obtain ⟨k, rfl⟩ : ∃ q, k = q + 1 := ⟨k - 1, by omega⟩
    have e1 : wrap64 (56 - wrap64 (8 * (i : Int))) = ((56 - 8 * i : Nat) : Int) := by unfold wrap64; omega
    have e2 : shr .u64 (m : Int) ((56 - 8 * i : Nat) : Int) % 256 = ((m / 2 ^ (56 - 8 * i) % 256 : Nat) : Int) := by
      unfold shr
      rw [show min ((56 - 8 * i : Nat) : Int).toNat IntKind.u64.bits = 56 - 8 * i from by show min (56 - 8 * i) 64 = _; omega, show (2 : Int) ^ (56 - 8 * i) = ((2 ^ (56 - 8 * i) : Nat) : Int) from by push_cast; rfl]
      generalize 2 ^ (56 - 8 * i) = q
      simp
    rw [sha_Pad.l1, if_pos (by omega), e1, if_pos (by omega), if_pos (by omega), e2, show wrap64 ((i : Int) + 1) = ((i + 1 : Nat) : Int) from by unfold wrap64; omega]
    rw [ih (i + 1) k _ (by omega) (by omega) (by omega) (by simp; omega)]
    rw [bytes8_succ m i (by omega)]
    simp
theorem tmod_nat (a b : Nat) : Int.tmod (a : Int) (b : Int) = ((a % b : Nat) : Int) := by rw [Int.tmod_eq_emod_of_nonneg (by omega)]; simp
theorem pad_e (a j : Nat) (ha : a < 64) (hj : j ≤ 64) : wrap64 (wrap64 ((a : Int) + ((j + 1 : Nat) : Int)) + 8) = ((a + j + 9 : Nat) : Int) := by
  unfold wrap64; omega
theorem pad_z (a j : Nat) (ha : a < 64) (hj : j < (119 - a) % 64) : ¬ (a + j + 9) % 64 = 0 := by omega
theorem pad_z0 (a : Nat) (ha : a < 64) : (a + (119 - a) % 64 + 9) % 64 = 0 := by omega
theorem pad_m (n : Nat) : IntKind.u64.wrap (IntKind.u64.wrap (n : Int) * 8) = ((n * 8 % 18446744073709551616 : Nat) : Int) := by rw [IntKind.wrap_u64, IntKind.wrap_u64]; omega
theorem pad_l0 (n : Nat) : ∀ (d j k : Nat), zN n - j = d → j ≤ zN n → d + 10 < k → sha_Pad.l0 k n (128 :: List.replicate j 0) = some (padL n) := by
  have hz : zN n < 64 := Nat.mod_lt _ (by omega)
  have h64 : Int.tmod (n : Int) 64 = ((n % 64 : Nat) : Int) := tmod_nat n 64
  have ha : n % 64 < 64 := Nat.mod_lt _ (by omega)
  have hl : ∀ j : Nat, ((128 :: List.replicate j 0 : List Int).length : Int) = ((j + 1 : Nat) : Int) := fun j => by simp
  intro d
  induction d with
  | zero =>
    intro j k hd hj hk
    obtain ⟨k, rfl⟩ : ∃ q, k = q + 1 := ⟨k - 1, by omega⟩
    obtain rfl : j = zN n := by omega
    have hc : ((n % 64 + zN n + 9 : Nat) : Int).tmod 64 = 0 := by
      have h := pad_z0 (n % 64) ha
      rw [show (64 : Int) = ((64 : Nat) : Int) from rfl, tmod_nat]
      unfold zN; rw [h]; rfl
    rw [sha_Pad.l0, h64, hl, pad_e _ _ ha (by omega), if_pos hc, pad_m]
    have h := pad_l1 (n * 8 % 18446744073709551616) 8 0 k (128 :: List.replicate (zN n) 0) (by omega) (by omega) (by omega) (by rw [List.length_cons, List.length_replicate]; omega)
    rw [show ((0 : Nat) : Int) = 0 from rfl] at h
    rw [h, List.cons_append]; unfold padL; trivial
  | succ d ih =>
    intro j k hd hj hk
    obtain ⟨k, rfl⟩ : ∃ q, k = q + 1 := ⟨k - 1, by omega⟩
    have hc : ¬ ((n % 64 + j + 9 : Nat) : Int).tmod 64 = 0 := by
      have hlt : j < zN n := by omega
      have h := pad_z (n % 64) j ha hlt
      rw [show (64 : Int) = ((64 : Nat) : Int) from rfl, tmod_nat]
      intro h2
      exact h (by exact_mod_cast h2)
    have hl2 : (128 :: List.replicate j 0 : List Int).length < 140737488355328 := by rw [List.length_cons, List.length_replicate]; omega
    rw [sha_Pad.l0, h64, hl, pad_e _ _ ha (by omega), if_neg hc, if_pos hl2]
    rw [List.cons_append, ← List.replicate_succ']
    exact ih (j + 1) k (by omega) (by omega) (by omega)
theorem pad_f (n k : Nat) (hn : n < 9223372036854775808) (hk : 74 < k) : sha_Pad.f k n = some (padL n) := by
  have hz : zN n < 64 := Nat.mod_lt _ (by omega)
  have h := pad_l0 n (zN n) 0 k rfl (by omega) (by omega)
  unfold sha_Pad.f
  rw [if_neg (by omega)]
  exact h
theorem pad_c (n : Nat) (hn : n < 9223372036854775808) (w : World) : Calls Try.prog 16 #[.int .i64 (n : Int)] w (Tells w (fun w' v => w'.ownsRow w.heap.size 5 1 v (padL n).length (nums .u8 (padL n)))) := by
  obtain ⟨k, hk⟩ : ∃ k : Nat, 74 < k := ⟨75, by omega⟩
  have hf := pad_f n k hn hk
  obtain ⟨r, hr⟩ : ∃ r, r = padL n := ⟨_, rfl⟩
  rw [← hr] at hf ⊢
  clear hr
  exact (sha_Pad.calls k n r w hf).mono fun _ _ ⟨v, h, hr, k⟩ => ⟨v, h, Kd.own_of_R (enc := Value.int .u8) hr, k⟩
end Go.Proofs.Ytphkohdfdkmpcaa.F

-- ShaH
namespace Go.Proofs.Ytphkohdfdkmpcaa.F
open Go Go.RowKit Go.Proofs.YtphkohdfdkmpcaaW.PrintWords Go.Proofs.YtphkohdfdkmpcaaW.PrintLast Go.Proofs.YtphkohdfdkmpcaaW.PrintMore Go.Proofs.YtphkohdfdkmpcaaR
set_option linter.unusedSimpArgs false
set_option linter.unusedVariables false
def blkL (l : List Int) (m : Nat) : List Int := (l.drop (64 * m)).take 64
/-- the state behind so many blocks -/
def after (ks s : List Nat) (l : List Int) : Nat → List Nat
  | 0 => s
  | m + 1 => mixL ks (after ks s l m) (blkL l m)
theorem after_len {ks s : List Nat} {l : List Int} (h : s.length = 8) : ∀ m, (after ks s l m).length = 8
  | 0 => h
  | m + 1 => mixL_len _ _ _
theorem after_words {ks s : List Nat} {l : List Int} (h : words s) : ∀ m, words (after ks s l m)
  | 0 => h
  | m + 1 => mixL_words _ _ _ (after_words h m)
theorem blkL_pre (l x : List Int) (m : Nat) (h : 64 * (m + 1) ≤ l.length) : blkL (l ++ x) m = blkL l m := by
  unfold blkL
  rw [List.drop_append_of_le_length (by omega), List.take_append_of_le_length (by rw [List.length_drop]; omega)]
theorem after_pre (ks s : List Nat) (l x : List Int) : ∀ m, 64 * m ≤ l.length → after ks s (l ++ x) m = after ks s l m
  | 0, _ => rfl
  | m + 1, h => by
    show mixL ks (after ks s (l ++ x) m) (blkL (l ++ x) m) = mixL ks (after ks s l m) (blkL l m)
    rw [after_pre ks s l x m (by omega), blkL_pre l x m h]
theorem after_add (ks s : List Nat) (l : List Int) (m : Nat) : ∀ j, after ks (after ks s l m) (l.drop (64 * m)) j = after ks s l (m + j)
  | 0 => rfl
  | j + 1 => by
    show mixL ks (after ks (after ks s l m) (l.drop (64 * m)) j) (blkL (l.drop (64 * m)) j) = mixL ks (after ks s l (m + j)) (blkL l (m + j))
    rw [after_add ks s l m j]
    congr 1
    unfold blkL
    rw [List.drop_drop]
    congr 2
    omega
/-- the state behind all whole blocks, and what waits -/
def stL (l : List Int) : List Nat := after kL s0L l (l.length / 64)
def restL (l : List Int) : List Int := l.drop (64 * (l.length / 64))
theorem restL_len (l : List Int) : (restL l).length = l.length % 64 := by unfold restL; rw [List.length_drop]; omega
theorem stL_len (l : List Int) : (stL l).length = 8 := after_len s0L_len _
theorem stL_words (l : List Int) : words (stL l) := after_words s0L_words _
/-- more bytes that fill no block -/
theorem stL_more (l x : List Int) (h : l.length % 64 + x.length < 64) : stL (l ++ x) = stL l ∧ restL (l ++ x) = restL l ++ x := by
  have e : (l ++ x).length / 64 = l.length / 64 := by rw [List.length_append]; omega
  unfold stL restL
  rw [e, after_pre _ _ _ _ _ (by omega), List.drop_append_of_le_length (by omega)]
  exact ⟨rfl, rfl⟩
/-- more bytes that fill a block -/
theorem stL_full (l x : List Int) (h : l.length % 64 + x.length = 64) : stL (l ++ x) = mixL kL (stL l) (restL l ++ x) ∧ restL (l ++ x) = [] := by
  have e : (l ++ x).length / 64 = l.length / 64 + 1 := by rw [List.length_append]; omega
  have e2 : (l ++ x).length = 64 * (l.length / 64 + 1) := by rw [List.length_append]; omega
  refine ⟨?_, ?_⟩
  · unfold stL
    rw [e]
    show mixL kL (after kL s0L (l ++ x) (l.length / 64)) (blkL (l ++ x) (l.length / 64)) = _
    rw [after_pre _ _ _ _ _ (by omega)]
    congr 1
    unfold blkL restL
    rw [List.drop_append_of_le_length (by omega), List.take_of_length_le (by rw [List.length_append, List.length_drop]; omega)]
  · unfold restL
    rw [e, ← e2, List.drop_length]
/-- the bytes of the words -/
def outW (x : Nat) : List Int := [((x / 16777216 % 256 : Nat) : Int), ((x / 65536 % 256 : Nat) : Int), ((x / 256 % 256 : Nat) : Int), ((x % 256 : Nat) : Int)]
def outL (s : List Nat) : List Int := s.flatMap outW
theorem outL_len : ∀ s : List Nat, (outL s).length = 4 * s.length
  | [] => rfl
  | x :: s => by
    show (outW x ++ outL s).length = _
    rw [List.length_append, outL_len s, List.length_cons]
    show 4 + 4 * s.length = _
    omega
theorem outL_append (a b : List Nat) : outL (a ++ b) = outL a ++ outL b := List.flatMap_append
theorem outL_succ (s : List Nat) (i : Nat) (h : i < s.length) : outL (s.take (i + 1)) = outL (s.take i) ++ outW (s.getD i 0) := by
  rw [List.take_add_one, outL_append, List.getElem?_eq_getElem h, List.getD_eq_getElem?_getD, List.getElem?_eq_getElem h]
  show outL (s.take i) ++ (outW s[i] ++ []) = _
  rw [List.append_nil]; rfl
/-- all with its padding -/
def fullL (l : List Int) : List Int := l ++ padL l.length
theorem zN_fill (n : Nat) : (n + (zN n + 9)) % 64 = 0 := by
  have h := pad_z0 (n % 64) (Nat.mod_lt _ (by omega))
  unfold zN
  omega
theorem fullL_len (l : List Int) : (fullL l).length % 64 = 0 := by
  unfold fullL
  rw [List.length_append, padL_len]
  exact zN_fill _
/-- the digest -/
def shaL (l : List Int) : List Int := outL (after kL s0L (fullL l) ((fullL l).length / 64))
/-- from what waits on -/
theorem shaL_rest (l : List Int) : after kL (stL l) (restL l ++ padL l.length) ((restL l ++ padL l.length).length / 64) = after kL s0L (fullL l) ((fullL l).length / 64) ∧ (restL l ++ padL l.length).length % 64 = 0 := by
  have e : restL l ++ padL l.length = (fullL l).drop (64 * (l.length / 64)) := by
    unfold fullL restL
    rw [List.drop_append_of_le_length (by omega)]
  have e1 : stL l = after kL s0L (fullL l) (l.length / 64) := by
    unfold stL fullL
    rw [after_pre _ _ _ _ _ (by omega)]
  have hf := fullL_len l
  have hle : l.length ≤ (fullL l).length := by unfold fullL; rw [List.length_append]; omega
  rw [e, e1, after_add, List.length_drop]
  refine ⟨?_, by omega⟩
  congr 1
  omega
theorem padL_bytes (n : Nat) : ∀ y ∈ padL n, 0 ≤ y ∧ y < 256 := by
  intro y hy
  unfold padL at hy
  rcases List.mem_cons.1 hy with h | h
  · omega
  · rcases List.mem_append.1 h with h | h
    · have := List.eq_of_mem_replicate h; omega
    · unfold bytes8 at h
      obtain ⟨j, -, rfl⟩ := List.mem_map.1 h
      have := Nat.mod_lt (n * 8 % 18446744073709551616 / 2 ^ (56 - 8 * j)) (by omega : 0 < 256)
      generalize n * 8 % 18446744073709551616 / 2 ^ (56 - 8 * j) % 256 = z at this
      omega
/-- the memory of a Hash that has eaten these bytes; the count may be ahead -/
structure HashA (g N : Nat) (l : List Int) (rv : Value) (B : Nat) (w : World) : Prop where
  low : B ≤ g
  cells : Blk w g 53 (hashC kL (stL l) rv N)
  row : w.ownsRow B 5 1 rv (restL l).length (nums .u8 (restL l))
  far : ∀ k, rv.ownBlock = some k → k ≠ g
  bytes : ∀ x ∈ l, 0 ≤ x ∧ x < 256
/-- the blocks that it may write -/
def HS (g : Nat) (rv : Value) : Nat → Prop := fun k => k = g ∨ rv.ownBlock = some k
/-- a Hash, wherever what waits lies by now -/
def HashB (g N : Nat) (l : List Int) (B : Nat) (w0 w : World) (rv : Value) : Prop := ∃ rv', HashA g N l rv' B w ∧ (∀ k, rv'.ownBlock = some k → rv.ownBlock = some k ∨ w0.heap.size ≤ k)
theorem HashA.grew {g N : Nat} {l : List Int} {rv : Value} {B : Nat} {w w' : World} (h : HashA g N l rv B w) (hg : Grew w w') : HashA g N l rv B w' :=
  ⟨h.low, h.cells.grew hg, pw_own_below h.row hg, h.far, h.bytes⟩
theorem HashA.upd {g N : Nat} {l : List Int} {rv : Value} {B : Nat} {w w' : World} {S : Nat → Prop} (h : HashA g N l rv B w) (hu : Upd S w w') (hS : ∀ k, HS g rv k → ¬ S k) : HashA g N l rv B w' :=
  ⟨h.low, h.cells.upd hu (hS _ (.inl rfl)), hu.own h.row (fun k hk => hS k (.inr hk)), h.far, h.bytes⟩
theorem stL_nil : stL [] = s0L := rfl
theorem new_h (w : World) : Calls Try.prog 20 #[] w (Tells w (fun w' v => ∃ g, v = .pointer (some ⟨g, 0, none⟩) ∧ HashA g 0 [] (.slice none 0 0) w.heap.size w')) := by
  refine (new_c w).mono ?_
  rintro e w1 ⟨v, rfl, ⟨g, rfl, hg, hb⟩, hg1⟩
  exact ⟨_, rfl, ⟨g, rfl, hg, by rw [stL_nil]; exact hb, own_nil _ _ _ _, fun k hk => by simp [Value.ownBlock] at hk, by simp⟩, hg1⟩
end Go.Proofs.Ytphkohdfdkmpcaa.F

-- ShaW
namespace Go.Proofs.Ytphkohdfdkmpcaa.F
open Go Go.RowKit Go.Proofs.YtphkohdfdkmpcaaW.PrintWords Go.Proofs.YtphkohdfdkmpcaaW.PrintLast Go.Proofs.YtphkohdfdkmpcaaW.PrintMore Go.Proofs.YtphkohdfdkmpcaaR
attribute [local go_sem] max2_int min2_int max_two min_two
set_option linter.unusedSimpArgs false
set_option linter.unusedVariables false
set_option maxRecDepth 100000
def sliceLen : Value → Nat
  | .slice _ n _ => n
  | _ => 0
theorem HashA.count {g N M : Nat} {l : List Int} {rv : Value} {B : Nat} {w : World} (h : HashA g N l rv B w) : HashA g M l rv B (w.setCell ⟨g, 73, none⟩ (.int .i64 (M : Int))) :=
  ⟨h.low, by have := h.cells.set 73 (.int .i64 (M : Int)); rwa [hashC_set_n kL_len (stL_len _)] at this, (Upd.set (S := fun k => k = g) (p := ⟨g, 73, none⟩) (Upd.refl _ _) (.inl rfl) _).own h.row (fun k hk he => h.far k hk he), h.far, h.bytes⟩
theorem hashC_range {w : World} {g : Nat} {t : TypeId} {ks s : List Nat} {rv : Value} {n : Nat} (h : Blk w g t (hashC ks s rv n)) (h1 : ks.length = 64) : w.rangeAt g 64 (wcells s) := by
  have e := Blk.range (a := wcells ks) (b := wcells s) (c := [rv, .int .i64 (n : Int)]) h
  rw [wcells_len, h1] at e
  exact e
theorem hashC_there {w : World} {g : Nat} {t : TypeId} {ks s : List Nat} {rv : Value} {n : Nat} (h : Blk w g t (hashC ks s rv n)) (h1 : ks.length = 64) (h2 : s.length = 8) : w.there g 64 8 := by
  have e := Blk.there_ (a := wcells ks) (b := wcells s) (c := [rv, .int .i64 (n : Int)]) h
  rw [wcells_len, wcells_len, h1, h2] at e
  exact e
theorem hashC_lies {w : World} {g : Nat} {t : TypeId} {ks s : List Nat} {rv : Value} {n : Nat} (h : Blk w g t (hashC ks s rv n)) : Lies w g ks := fun i hi => by
  rw [h.at_]
  unfold hashC
  rw [List.getElem?_append_left (by rw [wcells_len]; exact hi), cells_get _ _ hi]
theorem wpList_store_list {P : Program} {ops : Array Oper} {rest : List Oper} {op : Oper} {a : Act} {w : World} {Q : Exit → Act → World → Prop} (hgd : op.guard = none) (ty : TypeId) (x y : Operand) (ho : op.op = .store ty x y)
    (b o : Nat) (c : List Value) (hx : a.eval x = .pointer (some ⟨b, o, none⟩)) (hy : a.eval y = .agg c.toArray)
    (ht : w.there b o c.length) (hi : (P.info? ty).map (·.size) = some c.length) (h1 : c.toArray.all (·.oneCell') = true)
    (h : wpList P ops Q rest (a.put op.dst undef) (w.setCells b o c)) : wpList P ops Q (op :: rest) a w :=
  wpList_store_mid hgd ty x y ho b o c.toArray hx hy (by simpa using ht) (by simpa using hi) h1 h
set_option maxHeartbeats 4000000 in
theorem write_c {g : Nat} {l : List Int} {rv : Value} {B : Nat} (w : World) (A : Option Addr) (c : Nat) (x : List Int) (h : HashA g l.length l rv B w) (hBw : B ≤ w.heap.size)
    (hr : ∀ w', Upd (HS g rv) w w' → Kd.C (Kd.int .u8) w' A x.length x) (hc : x.length ≤ c) (hl : l.length + x.length ≤ 1000000000) (hb : ∀ y ∈ x, 0 ≤ y ∧ y < 256) :
    Calls Try.prog 21 #[.pointer (some ⟨g, 0, none⟩), .slice A x.length c] w (Does (HS g rv) w (fun w' v => v = .tuple #[] ∧ HashB g (l.length + x.length) (l ++ x) B w w' rv)) := by
  have HR := Lib.hid hr
  have HB := Lib.hid hb
  have H0 := Lib.hid h
  have c1 := h.cells.at_ 73
  rw [hashC_n kL_len (stL_len _)] at c1
  have c2 := h.cells.fz 73
  have e1 : IntKind.i64.wrap ((l.length : Int) + (x.length : Int)) = ((l.length + x.length : Nat) : Int) := by rw [IntWalk.i64_in _ (by omega)]; omega
  obtain ⟨N, hN⟩ : ∃ N, N = l.length + x.length := ⟨_, rfl⟩
  obtain ⟨n0, hn0⟩ : ∃ n, n = l.length := ⟨_, rfl⟩
  obtain ⟨nx, hnx⟩ : ∃ n, n = x.length := ⟨_, rfl⟩
  rw [← hN] at e1 ⊢
  rw [← hn0] at e1 c1
  rw [← hnx] at e1 ⊢
  have HN := Lib.hid hN
  have HN0 := Lib.hid hn0
  have HNX := Lib.hid hnx
  have HL := Lib.hid hl
  have hcx : nx ≤ c := by omega
  clear hr hb h hN hn0 hnx hl hc
  go_enter Try.func21, Try.ntmps21
  go_wp2_with fail
  have hw0 : HashA g N l rv B (w.setCell ⟨g, 73, none⟩ (.int .i64 (N : Int))) := H0.out.count
  have hu0 : Upd (HS g rv) w (w.setCell ⟨g, 73, none⟩ (.int .i64 (N : Int))) := Upd.set (p := ⟨g, 73, none⟩) (Upd.refl _ _) (.inl (.inl rfl)) _
  obtain ⟨W, hW⟩ : ∃ W, W = w.setCell ⟨g, 73, none⟩ (.int .i64 (N : Int)) := ⟨_, rfl⟩
  rw [← hW] at hw0 hu0 ⊢
  clear hW c1 c2 e1 H0
  go_loopw [1] (fun bv wr => ∃ (pre suf : List Int) (rv' : Value) (A' : Option Addr) (c' m : Nat), bv = .slice A' m c' ∧ x = pre ++ suf ∧ suf.length = m ∧ m ≤ c' ∧ HashA g N (l ++ pre) rv' B wr ∧ (∀ k, rv'.ownBlock = some k → rv.ownBlock = some k ∨ w.heap.size ≤ k) ∧ Upd (HS g rv) w wr ∧ (∀ w', Upd (HS g rv) w w' → Kd.C (Kd.int .u8) w' A' m suf)) (fun bv _ => sliceLen bv)
  case atStart => exact ⟨[], x, rv, A, c, nx, rfl, rfl, HNX.out.symm, hcx, by rw [List.append_nil]; exact hw0, fun k hk => .inl hk, hu0, by rw [HNX.out]; exact HR.out⟩
  case round =>
    obtain ⟨pre, suf, rv', A', c', m, rfl, hx, hm, hmc, hh, hfr, hu, hC⟩ := hrel
    clear hw0 hu0 HR hcx
    have HXX := Lib.hid hx
    have HM := Lib.hid hm
    have HC := Lib.hid hC
    have HH := Lib.hid hh
    by_cases h0 : 0 < m
    · have d1 : decide (0 < (m : Int)) = true := decide_eq_true (by omega)
      have d1' : decide (0 < m) = true := decide_eq_true (by omega)
      have hrl : (restL (l ++ pre)).length < 64 := by rw [restL_len]; omega
      have c1 := hh.cells.at_ 72
      rw [hashC_rv kL_len (stL_len _)] at c1
      obtain ⟨Ar, cr, rfl⟩ := own_slice hh.row
      obtain ⟨nr, hnr⟩ : ∃ n, n = (restL (l ++ pre)).length := ⟨_, rfl⟩
      rw [← hnr] at c1 hrl hfr HH
      have HRow := Lib.hid (show wr.ownsRow B 5 1 (.slice Ar nr cr) (restL (l ++ pre)).length (nums .u8 (restL (l ++ pre))) from by rw [hnr]; exact hh.row)
      have HFR := Lib.hid hfr
      have HU := Lib.hid hu
      have C1 := Lib.hid c1
      have HNR := Lib.hid hnr
      obtain ⟨d, hd⟩ : ∃ d, d = 64 - nr := ⟨_, rfl⟩
      have e1 : IntKind.i64.wrap (64 - (nr : Int)) = (d : Int) := by rw [IntWalk.i64_in _ (by omega)]; omega
      obtain ⟨k, hk⟩ : ∃ k, k = min d m := ⟨_, rfl⟩
      have m1 : (if (d : Int) ≤ (m : Int) then (d : Int) else (m : Int)) = (k : Int) := by split <;> omega
      have m2 : (if d ≤ m then (d : Int) else (m : Int)) = (k : Int) := by split <;> omega
      have m4 : (if m < d then (m : Int) else (d : Int)) = (k : Int) := by split <;> omega
      have m5 : (if (m : Int) < (d : Int) then (m : Int) else (d : Int)) = (k : Int) := by split <;> omega
      have m3 : min (d : Int) (m : Int) = (k : Int) := by omega
      have hkm : k ≤ m := by omega
      have hk64 : nr + k ≤ 64 := by omega
      have HK := Lib.hid hk
      have HD := Lib.hid hd
      have k0 : 0 < k := by omega
      have hkc : k ≤ c' := by omega
      have hkci : (k : Int) ≤ (c' : Int) := by omega
      have hkmi : (k : Int) ≤ (m : Int) := by omega
      obtain ⟨q, hq⟩ : ∃ q, q = nr + k := ⟨_, rfl⟩
      have hBr : B ≤ wr.heap.size := Nat.le_trans hBw hu.size
      obtain ⟨A2, hs2, hr2⟩ := print_cut (P := Try.prog) 28 5 .i64 (i := _) Try.underlying28 (by rfl) (by rfl) A' m c' k hkm
      obtain ⟨mr, hmr⟩ : ∃ mr, mr = m - k := ⟨_, rfl⟩
      obtain ⟨c3, hc3⟩ : ∃ c3, c3 = c' - k := ⟨_, rfl⟩
      rw [← hmr, ← hc3] at hs2
      rw [← hmr] at hr2
      have HR2 := Lib.hid hr2
      have HQ := Lib.hid hq
      have HM2 := Lib.hid hmr
      have HC2 := Lib.hid hc3
      have hlr := own_lt hh.row
      rw [← hnr] at hlr
      have hfar := hh.far
      rw [← hnr] at hfar
      have HFar := Lib.hid hfar
      have HLr := Lib.hid hlr
      have HCells := Lib.hid hh.cells
      rw [← hnr] at HCells
      clear hx hm hC hh hnr hk hd hq hmr hc3 hr2 hlr hfar hfr hu
      go_wp2_with fail
      clear c1
      apply region_big (fun w w' => w.grownBy w' (Value.slice Ar nr cr).ownBlock) [.float, .plain, .plain, .plain, .plain, .plain, .plain, .plain, .big] [Is _, Is _, Is _, Is _, Is _, Is _, Is _, Is _, AppV B 5 (nums .u8 (restL (l ++ pre) ++ suf.take k)) q (.slice Ar nr cr) wr.heap.size] [([(0, none)], none), ([(0, none)], none), ([(29, some 1)], none), ([(30, some 2)], none), ([(31, some 3)], none), ([(1, none)], none), ([(4, none)], none), ([(33, some 5), (34, some 6)], none), ([(32, some 4), (35, some 7)], none)] [(36, 8), (28, 0), (29, 1), (30, 2), (31, 3), (32, 4), (33, 5), (34, 6), (35, 7)] rfl (by kernel_rfl) (by kernel_rfl) (by kernel_rfl) (by kernel_rfl) rfl (show StableB Grew _ _ _ from ⟨(fun _ => Is.stableB _), (fun _ => Is.stableB _), (fun _ => Is.stableB _), (fun _ => Is.stableB _), (fun _ => Is.stableB _), (fun _ => Is.stableB _), (fun _ => Is.stableB _), (fun _ => Is.stableB _), (fun h_ => absurd rfl h_), trivial⟩)
      · show PhHold _ _ _ _ _ _ _ _ _ _ _
        refine ⟨fun a_ wx hD K hK => ?_, ?_⟩
        · have hF_ := True.intro
          simp [Deps, Dep, at_, Is] at hD
          go_simp
          exact hK _ _ rfl rfl
        refine ⟨fun a_ wx hR hD K hK => ?_, ?_⟩
        · have hG : Grew wr wx := (Grew.drew _).trans hR
          simp [Deps, Dep, at_, Is] at hD
          go_simp
          exact hK _ _ (Grew.refl _) rfl
        refine ⟨fun a_ wx hR hD K hK => ?_, ?_⟩
        · have hG : Grew wr wx := (Grew.drew _).trans hR
          simp [Deps, Dep, at_, Is] at hD
          go_simp
          exact hK _ _ (Grew.refl _) rfl
        refine ⟨fun a_ wx hR hD K hK => ?_, ?_⟩
        · have hG : Grew wr wx := (Grew.drew _).trans hR
          simp [Deps, Dep, at_, Is] at hD
          go_simp
          exact hK _ _ (Grew.refl _) rfl
        refine ⟨fun a_ wx hR hD K hK => ?_, ?_⟩
        · have hG : Grew wr wx := (Grew.drew _).trans hR
          simp [Deps, Dep, at_, Is] at hD
          have e_ := pw_cell_below hG C1.out
          go_simp
          exact hK _ _ (Grew.refl _) rfl
        refine ⟨fun a_ wx hR hD K hK => ?_, ?_⟩
        · have hG : Grew wr wx := (Grew.drew _).trans hR
          simp [Deps, Dep, at_, Is] at hD
          go_simp
          exact hK _ _ (Grew.refl _) rfl
        refine ⟨fun a_ wx hR hD K hK => ?_, ?_⟩
        · have hG : Grew wr wx := (Grew.drew _).trans hR
          simp [Deps, Dep, at_, Is] at hD
          go_simp
          exact hK _ _ (Grew.refl _) rfl
        refine ⟨fun a_ wx hR hD K hK => ?_, ?_⟩
        · have hG : Grew wr wx := (Grew.drew _).trans hR
          simp [Deps, Dep, at_, Is] at hD
          obtain ⟨hd0, hd1⟩ := hD
          go_simp
          exact hK _ _ (Grew.refl _) rfl
        refine ⟨⟨rfl, fun a_ wx hR hD K hK => ?_⟩, ?_⟩
        · have hG : Grew wr wx := (Grew.drew _).trans hR
          simp [Deps, Dep, at_, Is] at hD
          obtain ⟨hd0, hd1⟩ := hD
          obtain ⟨v1, wy, hrun, hown1, hgr1, hat1⟩ := app_num (P := Try.prog) (k := .u8) wx B 28 5 28 1 Try.underlying28 info5 (by decide) _ (restL (l ++ pre)) (suf.take k) _ k c' (pw_own_below HRow.out hG) ((reads_of (HC.out wx (HU.out.trans (Upd.of_grew hG)))).take_ k hkm) (Nat.le_trans hBr hG.size) (by rw [← HNR.out]; omega)
          exact wp_app (.tmp 32) (.tmp 35) 28 rfl (eval_tmp hd0) (eval_tmp hd1) hrun (hK _ _ hgr1 ⟨by rw [show q = (restL (l ++ pre) ++ suf.take k).length from by rw [List.length_append, List.length_take, HM.out, ← HNR.out, HQ.out]; omega]; exact hown1, hat1.imp id (fun h => ⟨_, h, hG.size⟩)⟩)
        trivial
      · show EndHold _ _ _ _ _ _ _
        intro v36
        refine end_all (xs := [_, _, _, _, _, _, _, _]) ⟨rfl, rfl, rfl, rfl, rfl, rfl, rfl, rfl, trivial⟩ ?_
        rintro w4 hR1 ⟨-, hApp⟩
        refine ⟨?_⟩
        obtain ⟨wm_w4, hRm, hP_w4⟩ := hR1
        have hG_w4 : Grew wr wm_w4 := (Grew.drew _).trans hRm
        clear hRm
        simp only [Act.put, List.setIfInBounds_toArray, List.set_cons_succ, List.set_cons_zero, dropN, putEach]
        obtain ⟨hro, hat⟩ := hApp
        have hq0 : 0 < q := by rw [HQ.out]; omega
        obtain ⟨gv, cap, rfl, hgv1, hgv2, hgv3⟩ := own_head hro hq0
        have hu4 : Upd (fun j => (Value.slice Ar nr cr).ownBlock = some j) wr w4 := (Upd.of_grew hG_w4).grown hP_w4 (fun j hj => .inl hj)
        have hgvg : gv ≠ g := by
          rcases hat with h | ⟨j, h, hj⟩
          · exact HFar.out gv h.symm
          · have : gv = j := by simpa [Value.ownBlock] using h
            have := HCells.out.lt
            omega
        have hfr4 : ∀ j, (Value.slice (some ⟨gv, 0, none⟩) q cap).ownBlock = some j → rv.ownBlock = some j ∨ w.heap.size ≤ j := fun j hj => by
          rcases hat with h | ⟨j', h, hj'⟩
          · exact HFR.out j (h.symm.trans hj)
          · rw [h] at hj
            obtain rfl := Option.some.inj hj
            exact .inr (Nat.le_trans HU.out.size hj')
        have hcl4 := HCells.out.upd hu4 (fun hk => HFar.out g hk rfl)
        have hu4' : Upd (HS g rv) w w4 := HU.out.then_ hu4 (fun j hj hj2 => (HFR.out j hj2).elim (fun h => .inr h) (fun h => by omega))
        have hsu : Upd (fun j => j = g) w4 (w4.setCell ⟨g, 72, none⟩ (.slice (some ⟨gv, 0, none⟩) q cap)) := Upd.set (S := fun j => j = g) (p := ⟨g, 72, none⟩) (Upd.refl _ _) (.inl rfl) _
        have hcl5 := hcl4.set 72 (.slice (some ⟨gv, 0, none⟩) q cap)
        rw [hashC_set_rv kL_len (stL_len _)] at hcl5
        have hro5 := hsu.own hro (fun j hj h => hgvg (by
          have : gv = j := by simpa [Value.ownBlock] using hj
          omega))
        have hu5 := hu4'.trans (hsu.mono fun j _ h => .inl h)
        have z1 := hcl4.at_ 72
        rw [hashC_rv kL_len (stL_len _)] at z1
        have z2 := hcl4.fz 72
        obtain ⟨W5, hW5⟩ : ∃ W5, W5 = w4.setCell ⟨g, 72, none⟩ (.slice (some ⟨gv, 0, none⟩) q cap) := ⟨_, rfl⟩
        have z3 := hcl5.at_ 72
        rw [hashC_rv kL_len (stL_len _)] at z3
        have hb5 : ∀ y ∈ l ++ pre ++ suf.take k, 0 ≤ y ∧ y < 256 := fun y hy => (List.mem_append.1 hy).elim (HH.out.bytes y) (fun h => HB.out y (by rw [HXX.out]; exact List.mem_append_right _ (List.mem_of_mem_take h)))
        have hC5 : ∀ w', Upd (HS g rv) w w' → Kd.C (Kd.int .u8) w' A2 mr (suf.drop k) := fun w' hu => C_of (HR2.out w' .u8 suf hmc (reads_of (HC.out w' hu)))
        have hx5 : x = (pre ++ suf.take k) ++ suf.drop k := by rw [List.append_assoc, List.take_append_drop]; exact HXX.out
        have hm5 : (suf.drop k).length = mr := by rw [List.length_drop, HM.out, HM2.out]
        have hc5 : mr ≤ c3 := by rw [HM2.out, HC2.out]; omega
        have hmlt : mr < m := by rw [HM2.out]; omega
        have hyl : (suf.take k).length = k := by rw [List.length_take, HM.out]; omega
        rw [← hW5] at hsu hcl5 hro5 hu5 z3
        have HB5 := Lib.hid hb5
        have HC5 := Lib.hid hC5
        have HX5 := Lib.hid hx5
        have HM5 := Lib.hid hm5
        have HYL := Lib.hid hyl
        have HCL5 := Lib.hid hcl5
        have HRO5 := Lib.hid hro5
        have HU5 := Lib.hid hu5
        have HF4 := Lib.hid hfr4
        have HW5 := Lib.hid hW5
        have Z1 := Lib.hid z1
        have Z2 := Lib.hid z2
        have Z3 := Lib.hid z3
        clear hb5 hC5 hx5 hm5 hyl hcl5 hro5 hu5 hfr4 hsu hcl4 hu4' hu4 hro hat HC HXX HM HRow HFR HFar HLr HCells C1 z3 hgv1 hP_w4 hG_w4 m1 m2 m3 m4 m5 e1
        by_cases hq64 : q = 64
        · subst hq64
          have z3 := Z3.out
          rw [HW5.out] at z3
          go_wp2_with fail
          clear z1 z2 z3
          rw [← HW5.out]
          have hn64 : (restL (l ++ pre) ++ suf.take k).length = 64 := by rw [List.length_append, HYL.out, ← HNR.out]; exact HQ.out.symm
          have hby : ∀ y ∈ restL (l ++ pre) ++ suf.take k, 0 ≤ y ∧ y < 256 := fun y hy => HB5.out y ((List.mem_append.1 hy).elim (fun h => List.mem_append_left _ (List.mem_of_mem_drop h)) (fun h => List.mem_append_right _ h))
          have hmod : (l ++ pre).length % 64 + (suf.take k).length = 64 := by rw [← restL_len, ← List.length_append]; exact hn64
          have hfull := stL_full (l ++ pre) (suf.take k) hmod
          obtain ⟨S1, hS1⟩ : ∃ S1, S1 = stL (l ++ pre) := ⟨_, rfl⟩
          have hs1l : S1.length = 8 := by rw [hS1]; exact stL_len _
          have hs1w : words S1 := by rw [hS1]; exact stL_words _
          rw [← hS1] at hfull HCL5
          obtain ⟨Y, hY⟩ : ∃ Y, Y = restL (l ++ pre) ++ suf.take k := ⟨_, rfl⟩
          rw [← hY] at hn64 hby hfull HRO5
          have HFull := Lib.hid hfull
          have HN64 := Lib.hid hn64
          have HBY := Lib.hid hby
          have HS1 := Lib.hid hs1l
          have HSW := Lib.hid hs1w
          have hcry : ∀ w', Grew W5 w' → Kd.C (Kd.int .u8) w' (some ⟨gv, 0, none⟩) 64 Y := fun w' hg => by
            have h1 := own_reads' (pw_own_below HRO5.out hg)
            exact C_of h1
          have HCR := Lib.hid hcry
          clear hfull hn64 hby hs1l hs1w hcry hmod hS1 hY
          apply region_grew [Is _, Is _, Is _, Is _, Is _, Is _, Is _, Is _, Is _, Is _, Is _, Is _, Is _] [([(0, none)], none), ([(0, none)], none), ([(49, some 1)], none), ([(50, some 2)], none), ([(0, none)], none), ([(52, some 4)], none), ([(53, some 5)], none), ([(54, some 6)], none), ([(0, none)], none), ([(56, some 8)], none), ([(57, some 9)], none), ([(58, some 10)], none), ([(51, some 3), (55, some 7), (59, some 11)], none)] [(48, 0), (49, 1), (50, 2), (51, 3), (52, 4), (53, 5), (54, 6), (55, 7), (56, 8), (57, 9), (58, 10), (59, 11), (60, 12)] rfl (by kernel_rfl) (by kernel_rfl) (show Stable Grew _ from ⟨Is.stable _, Is.stable _, Is.stable _, Is.stable _, Is.stable _, Is.stable _, Is.stable _, Is.stable _, Is.stable _, Is.stable _, Is.stable _, Is.stable _, Is.stable _, trivial⟩)
          · show OpsHold _ _ _ _ _ _ _ _ _
            refine ⟨fun a_ wx hR hD K hK => ?_, ?_⟩
            · have hG : Grew W5 wx := (Grew.drew _).trans hR
              simp [Deps, Dep, at_, Is] at hD
              go_simp
              exact hK _ _ (Grew.refl _) rfl
            refine ⟨fun a_ wx hR hD K hK => ?_, ?_⟩
            · have hG : Grew W5 wx := (Grew.drew _).trans hR
              simp [Deps, Dep, at_, Is] at hD
              go_simp
              exact hK _ _ (Grew.refl _) rfl
            refine ⟨fun a_ wx hR hD K hK => ?_, ?_⟩
            · have hG : Grew W5 wx := (Grew.drew _).trans hR
              simp [Deps, Dep, at_, Is] at hD
              go_simp
              exact hK _ _ (Grew.refl _) rfl
            refine ⟨fun a_ wx hR hD K hK => ?_, ?_⟩
            · have hG : Grew W5 wx := (Grew.drew _).trans hR
              simp [Deps, Dep, at_, Is] at hD
              go_simp
              exact hK _ _ (Grew.refl _) rfl
            refine ⟨fun a_ wx hR hD K hK => ?_, ?_⟩
            · have hG : Grew W5 wx := (Grew.drew _).trans hR
              simp [Deps, Dep, at_, Is] at hD
              go_simp
              exact hK _ _ (Grew.refl _) rfl
            refine ⟨fun a_ wx hR hD K hK => ?_, ?_⟩
            · have hG : Grew W5 wx := (Grew.drew _).trans hR
              simp [Deps, Dep, at_, Is] at hD
              go_simp
              exact hK _ _ (Grew.refl _) rfl
            refine ⟨fun a_ wx hR hD K hK => ?_, ?_⟩
            · have hG : Grew W5 wx := (Grew.drew _).trans hR
              simp [Deps, Dep, at_, Is] at hD
              go_simp
              exact hK _ _ (Grew.refl _) rfl
            refine ⟨fun a_ wx hR hD K hK => ?_, ?_⟩
            · have hG : Grew W5 wx := (Grew.drew _).trans hR
              simp [Deps, Dep, at_, Is] at hD
              exact wp_load_mid 40 (.tmp 54) rfl g 64 (eval_tmp hD) (wcells S1) _ (hashC_range (HCL5.out.grew hG) kL_len) Try.underlying40 (by rfl) (by rw [wcells_len, HS1.out]; kernel_rfl) (hK _ _ (Grew.refl _) rfl)
            refine ⟨fun a_ wx hR hD K hK => ?_, ?_⟩
            · have hG : Grew W5 wx := (Grew.drew _).trans hR
              simp [Deps, Dep, at_, Is] at hD
              go_simp
              exact hK _ _ (Grew.refl _) rfl
            refine ⟨fun a_ wx hR hD K hK => ?_, ?_⟩
            · have hG : Grew W5 wx := (Grew.drew _).trans hR
              simp [Deps, Dep, at_, Is] at hD
              go_simp
              exact hK _ _ (Grew.refl _) rfl
            refine ⟨fun a_ wx hR hD K hK => ?_, ?_⟩
            · have hG : Grew W5 wx := (Grew.drew _).trans hR
              simp [Deps, Dep, at_, Is] at hD
              go_simp
              exact hK _ _ (Grew.refl _) rfl
            refine ⟨fun a_ wx hR hD K hK => ?_, ?_⟩
            · have hG : Grew W5 wx := (Grew.drew _).trans hR
              simp [Deps, Dep, at_, Is] at hD
              have e_ := pw_cell_below hG Z3.out
              go_simp
              exact hK _ _ (Grew.refl _) rfl
            refine ⟨fun a_ wx hR hD K hK => ?_, ?_⟩
            · have hG : Grew W5 wx := (Grew.drew _).trans hR
              simp [Deps, Dep, at_, Is] at hD
              obtain ⟨hd0, hd1, hd2⟩ := hD
              go_simp
              have hcn := mix_c wx g kL S1 (some ⟨gv, 0, none⟩) cap Y (hashC_lies (HCL5.out.grew hG)) kL_len kL_words HS1.out HSW.out HN64.out HBY.out (HCR.out wx hG) hgv3
              with_reducible refine hcn.mono ?_
              clear hcn
              rintro e wy ⟨v, rfl, hv, hg⟩
              exact hK _ _ hg hv
            trivial
          · show EndHold _ _ _ _ _ _ _
            refine end_all (xs := [_, _, _, _, _, _, _, _, _, _, _, _, _]) ⟨rfl, rfl, rfl, rfl, rfl, rfl, rfl, rfl, rfl, rfl, rfl, rfl, rfl, trivial⟩ ?_
            rintro w6 hR1 -
            refine ⟨?_⟩
            have hG_w6 : Grew W5 w6 := (Grew.drew _).trans hR1
            clear hR1
            simp only [Act.put, List.setIfInBounds_toArray, List.set_cons_succ, List.set_cons_zero, dropN, putEach]
            have hcl6 := HCL5.out.grew hG_w6
            obtain ⟨M, hM⟩ : ∃ M, M = mixL kL S1 Y := ⟨_, rfl⟩
            rw [← hM] at HFull ⊢
            have hml : M.length = 8 := by rw [hM]; exact mixL_len _ _ _
            have hth : w6.there g 64 (wcells M).length := by rw [wcells_len, hml]; exact hashC_there hcl6 kL_len HS1.out
            have hcl7 := Blk.setCells (wcells M) 64 hcl6
            rw [hashC_setL kL_len M (by rw [hml, HS1.out])] at hcl7
            have hu6 := HU5.out.trans (Upd.of_grew hG_w6)
            have hu7 : Upd (HS g rv) w (w6.setCells g 64 (wcells M)) := Upd.setCells (.inl (.inl rfl)) _ _ hu6
            have hro6 := pw_own_below HRO5.out hG_w6
            have hro7 := (Upd.setCells (S := fun j => j = g) (g := g) (.inl rfl) (wcells M) 64 (Upd.refl _ w6)).own hro6 (fun j hj h => hgvg (by
              have : gv = j := by simpa [Value.ownBlock] using hj
              omega))
            have y1 := hcl7.at_ 72
            rw [hashC_rv kL_len hml] at y1
            have y2 := hcl7.fz 72
            have HML := Lib.hid hml
            have HTH := Lib.hid hth
            have HCL7 := Lib.hid hcl7
            have HU7 := Lib.hid hu7
            have HRO7 := Lib.hid hro7
            clear hM hml hth hcl6 hcl7 hu6 hu7 hro6 hro7
            have g1 : 0 ≤ cap := Nat.zero_le _
            go_wp2_with (refine wpList_store_list (by rfl) 40 (.tmp 62) (.tmp 60) (by rfl) g 64 (wcells M) (by rfl) (by rfl) HTH.out (by rw [wcells_len, HML.out]; kernel_rfl) (wcells_one _) ?_)
            go_roundw
            case rel =>
              refine ⟨pre ++ suf.take k, suf.drop k, .slice (some ⟨gv, 0, none⟩) 0 cap, A2, c3, mr, rfl, HX5.out, HM5.out, hc5, ⟨HH.out.low, ?_, ?_, ?_, ?_⟩, HF4.out, HU7.out.set (.inl (.inl rfl)) _, HC5.out⟩
              · have h := HCL7.out.set 72 (.slice (some ⟨gv, 0, none⟩) 0 cap)
                rw [hashC_set_rv kL_len HML.out] at h
                rw [← List.append_assoc, HFull.out.1]
                exact h
              · rw [← List.append_assoc, HFull.out.2]
                exact own_take (Upd.own (Upd.set (S := fun j => j = g) (p := ⟨g, 72, none⟩) (Upd.refl _ _) (.inl rfl) _) HRO7.out (fun j hj h => hgvg (by
                  have : gv = j := by simpa [Value.ownBlock] using hj
                  omega))) (Nat.zero_le 64)
              · intro j hj
                have : gv = j := by simpa [Value.ownBlock] using hj
                omega
              · rw [← List.append_assoc]; exact HB5.out
            case measure => simp [sliceLen]; omega
        · have hq64' : ((q : Int) == 64) = false := by simp; omega
          have hq65 : decide ((q : Int) = 64) = false := decide_eq_false (by omega)
          have z3 := Z3.out
          rw [HW5.out] at z3
          have hlt : nr + k < 64 := by have := HQ.out; omega
          have hmod : (l ++ pre).length % 64 + (suf.take k).length < 64 := by rw [← restL_len, HYL.out, ← HNR.out]; exact hlt
          have hmore := stL_more (l ++ pre) (suf.take k) hmod
          have HMore := Lib.hid hmore
          clear hmore hmod hlt
          go_wp2_with fail
          go_roundw
          case rel =>
            rw [← HW5.out]
            refine ⟨pre ++ suf.take k, suf.drop k, .slice (some ⟨gv, 0, none⟩) q cap, A2, c3, mr, rfl, HX5.out, HM5.out, hc5, ⟨HH.out.low, ?_, ?_, ?_, ?_⟩, HF4.out, HU5.out, HC5.out⟩
            · rw [← List.append_assoc, HMore.out.1]
              exact HCL5.out
            · rw [← List.append_assoc, HMore.out.2]
              rw [show (restL (l ++ pre) ++ suf.take k).length = q from by rw [List.length_append, HYL.out, ← HNR.out, HQ.out]]
              exact HRO5.out
            · intro j hj
              have : gv = j := by simpa [Value.ownBlock] using hj
              omega
            · rw [← List.append_assoc]; exact HB5.out
          case measure => simp [sliceLen]; omega
    · obtain rfl : m = 0 := by omega
      obtain rfl : suf = [] := List.eq_nil_of_length_eq_zero hm
      rw [List.append_nil] at hx
      subst hx
      have HFR := Lib.hid hfr
      have HU := Lib.hid hu
      clear hC hm hh hfr hu
      go_wp2_with fail
      go_end0
      exact ⟨_, rfl, ⟨rfl, _, HH.out, HFR.out⟩, HU.out⟩
end Go.Proofs.Ytphkohdfdkmpcaa.F

-- ShaU
namespace Go.Proofs.Ytphkohdfdkmpcaa.F
open Go Go.RowKit Go.Proofs.YtphkohdfdkmpcaaW.PrintWords Go.Proofs.YtphkohdfdkmpcaaW.PrintLast Go.Proofs.YtphkohdfdkmpcaaW.PrintMore Go.Proofs.YtphkohdfdkmpcaaR
attribute [local go_sem] max2_int min2_int max_two min_two
set_option linter.unusedSimpArgs false
set_option linter.unusedVariables false
set_option maxRecDepth 100000
theorem Blk.range0 {w : World} {g : Nat} {t : TypeId} {cs : List Value} (h : Blk w g t cs) : w.rangeAt g 0 cs := fun j v hv => by rw [h.at_, Nat.zero_add]; exact hv
/-- an append onto an empty row without room: what lay there stays -/
theorem app_fresh {P : Program} {k : IntKind} (W : World) (base : Nat) (t e ty : TypeId) (bytes : Nat)
    (ht : P.underlying t = some (.slice e)) (hinfo : (P.info? e).map (fun i => (i.zero, i.size, i.bytes)) = some (some (.int k 0), 1, bytes)) (hb0 : 0 < bytes)
    (b : Nat) (ys : List Int) (A : Option Addr) (m c : Nat) (HO : W.ownsRow base e 1 (.slice (some ⟨b, 0, none⟩) 0 0) 0 []) (HR : ReadsInt W k A m ys) (hbase : base ≤ W.heap.size) (hl : m * bytes ≤ 140737488355328) :
    ∃ v1 w1, (Builtin.append_ #[t, t] ty #[.slice (some ⟨b, 0, none⟩) 0 0, .slice A m c]).run P W = .ok v1 w1 ∧ w1.ownsRow base e 1 v1 ys.length (nums k ys) ∧ Grew W w1 := by
  obtain ⟨i0, hi, hzz⟩ := Option.map_eq_some_iff.1 hinfo
  simp only [Prod.mk.injEq] at hzz
  obtain ⟨hz0, hz1, hz2⟩ := hzz
  have hm : ys.length = m := HR.1
  have hlen : m ≤ 140737488355328 := Nat.le_trans (Nat.le_mul_of_pos_right _ hb0) hl
  rcases Nat.eq_zero_or_pos m with h0 | hpos
  · subst h0
    obtain rfl : ys = [] := List.eq_nil_of_length_eq_zero hm
    refine ⟨_, W, ?_, HO, Grew.refl W⟩
    have hld : ∀ ad : Addr, (loadCells ad 0).run P W = .ok #[] W := fun ad => by simpa using run_loadCells_list (P := P) W ad [] (by simp)
    cases A <;> simp [Builtin.append_, run_underlying ht, sizeOf, typeInfo, hi, Builtin.lenOf, Builtin.firstCells, storeCells, hld]
  · obtain ⟨ad, rfl, hc⟩ := HR.2.2 hpos
    obtain ⟨v1, w1, hr, ho, hg⟩ := run_append_arg_grows (P := P) W t ty e i0 (.int k 0) 1 bytes ht hi hz0 hz1 hz2 (by rfl) (by omega) ⟨b, 0, none⟩ 0 0 [] (by simp) (by simp) ad m c (nums k ys) (by simp [nums, hm])
      (fun j u hu => by
        have hj : j < ys.length := by
          have := (List.getElem?_eq_some_iff.1 hu).1
          simpa [nums] using this
        have e2 : (nums k ys)[j]? = some (.int k (ys.getD j 0)) := by simp [nums, hj, List.getD_eq_getElem?_getD]
        rw [e2] at hu
        rw [← hu]
        exact hc j (by omega)) (by omega) (by simp only [maxLen]; omega) (by simpa using hl)
    rw [Nat.zero_add, List.nil_append] at ho
    exact ⟨v1, w1, hr, by rw [hm]; exact own_less ho hbase, ⟨hg.os, hg.tape, hg.output, hg.size, fun j hj => hg.block j hj (by simp)⟩⟩
/-- an empty row without room, in a block of its own -/
def Empty0 (base : Nat) (e : TypeId) : World → Value → Prop := fun w v => ∃ b, v = .slice (some ⟨b, 0, none⟩) 0 0 ∧ w.ownsRow base e 1 (.slice (some ⟨b, 0, none⟩) 0 0) 0 []
theorem Empty0.stable (base : Nat) (e : TypeId) : ∀ w w' v, Grew w w' → Empty0 base e w v → Empty0 base e w' v := fun _ _ _ hg ⟨b, h1, h2⟩ => ⟨b, h1, pw_own_below h2 hg⟩
theorem Empty0.new (w : World) (base : Nat) (e : TypeId) (h : base ≤ w.heap.size) : Empty0 base e (w.alloc (.cells #[] e)) (.slice (some ⟨w.heap.size, 0, none⟩) 0 0) := by
  refine ⟨_, rfl, ?_⟩
  have := (Blk.new w e (nums .u8 [])).own (base := base) (n := 0) h (Nat.le_refl _) (by simp)
  exact this
def OwnR (base : Nat) (e : TypeId) (l : List Int) : World → Value → Prop := fun w v => w.ownsRow base e 1 v l.length (nums .u8 l)
theorem OwnR.stable (base : Nat) (e : TypeId) (l : List Int) : ∀ w w' v, Grew w w' → OwnR base e l w v → OwnR base e l w' v := fun _ _ _ hg h => pw_own_below h hg
set_option maxHeartbeats 4000000 in
theorem sum_c {g : Nat} {l : List Int} {rv : Value} {B : Nat} (w : World) (h : HashA g l.length l rv B w) (hl : l.length ≤ 1000000000) :
    Calls Try.prog 22 #[.pointer (some ⟨g, 0, none⟩)] w (Tells w (Is (.string (strOfNums (shaL l))))) := by
  have H0 := Lib.hid h
  have HL := Lib.hid hl
  obtain ⟨Ar, cr, rfl⟩ := own_slice h.row
  have c1 := h.cells.at_ 72
  rw [hashC_rv kL_len (stL_len _)] at c1
  have c2 := h.cells.at_ 73
  rw [hashC_n kL_len (stL_len _)] at c2
  have hc1 := own_reads' h.row
  obtain ⟨nr, hnr⟩ : ∃ n, n = (restL l).length := ⟨_, rfl⟩
  obtain ⟨n, hn⟩ : ∃ n, n = l.length := ⟨_, rfl⟩
  rw [← hnr] at c1
  rw [← hn] at c2
  have C1 := Lib.hid c1
  have C2 := Lib.hid c2
  have HNR := Lib.hid hnr
  have HN := Lib.hid hn
  clear h hl c1 c2 hc1 hnr hn
  go_enter Try.func22, Try.ntmps22
  go_wp2_with fail
  have HRD := Lib.hid (fun w' (hg : Grew w w') => own_reads' (pw_own_below H0.out.row hg))
  apply region_grew [Empty0 w.heap.size 5, Is _, Is _, Is _, Is _, OwnR w.heap.size 5 (restL l), Is _, Is _, Is _, Is _] [([], none), ([(0, none)], none), ([(12, some 1)], none), ([(13, some 2)], none), ([(14, some 3)], none), ([(11, some 0), (15, some 4)], none), ([(0, none)], none), ([(17, some 6)], none), ([(18, some 7)], none), ([(19, some 8)], none)] [(11, 0), (16, 5), (12, 1), (13, 2), (14, 3), (15, 4), (17, 6), (18, 7), (19, 8), (20, 9)] rfl (by kernel_rfl) (by kernel_rfl) (show Stable Grew _ from ⟨Empty0.stable _ _, Is.stable _, Is.stable _, Is.stable _, Is.stable _, OwnR.stable _ _ _, Is.stable _, Is.stable _, Is.stable _, Is.stable _, trivial⟩)
  · show OpsHold _ _ _ _ _ _ _ _ _
    refine ⟨fun a_ wx hR hD K hK => ?_, ?_⟩
    · have hG : Grew w wx := (Grew.drew _).trans hR
      go_simp
      exact hK _ _ (Grew.alloc _ _) (Empty0.new _ _ _ hG.size)
    refine ⟨fun a_ wx hR hD K hK => ?_, ?_⟩
    · have hG : Grew w wx := (Grew.drew _).trans hR
      simp [Deps, Dep, at_, Is] at hD
      go_simp
      exact hK _ _ (Grew.refl _) rfl
    refine ⟨fun a_ wx hR hD K hK => ?_, ?_⟩
    · have hG : Grew w wx := (Grew.drew _).trans hR
      simp [Deps, Dep, at_, Is] at hD
      go_simp
      exact hK _ _ (Grew.refl _) rfl
    refine ⟨fun a_ wx hR hD K hK => ?_, ?_⟩
    · have hG : Grew w wx := (Grew.drew _).trans hR
      simp [Deps, Dep, at_, Is] at hD
      go_simp
      exact hK _ _ (Grew.refl _) rfl
    refine ⟨fun a_ wx hR hD K hK => ?_, ?_⟩
    · have hG : Grew w wx := (Grew.drew _).trans hR
      simp [Deps, Dep, at_, Is] at hD
      have e_ := pw_cell_below hG C1.out
      go_simp
      exact hK _ _ (Grew.refl _) rfl
    refine ⟨fun a_ wx hR hD K hK => ?_, ?_⟩
    · have hG : Grew w wx := (Grew.drew _).trans hR
      simp [Deps, Dep, at_, Is] at hD
      obtain ⟨hd0, hd1⟩ := hD
      obtain ⟨b, h1, h2⟩ := hd0
      obtain ⟨v1, wy, hrun, hown1, hgr1⟩ := app_fresh (P := Try.prog) (k := .u8) wx w.heap.size 28 5 28 1 Try.underlying28 info5 (by decide) b (restL l) Ar nr cr h2 (by rw [HNR.out]; exact HRD.out wx hG) hG.size (by rw [HNR.out, restL_len]; omega)
      exact wp_app (.tmp 11) (.tmp 15) 28 rfl (eval_tmp h1) (eval_tmp hd1) hrun (hK _ _ hgr1 hown1)
    refine ⟨fun a_ wx hR hD K hK => ?_, ?_⟩
    · have hG : Grew w wx := (Grew.drew _).trans hR
      simp [Deps, Dep, at_, Is] at hD
      go_simp
      exact hK _ _ (Grew.refl _) rfl
    refine ⟨fun a_ wx hR hD K hK => ?_, ?_⟩
    · have hG : Grew w wx := (Grew.drew _).trans hR
      simp [Deps, Dep, at_, Is] at hD
      go_simp
      exact hK _ _ (Grew.refl _) rfl
    refine ⟨fun a_ wx hR hD K hK => ?_, ?_⟩
    · have hG : Grew w wx := (Grew.drew _).trans hR
      simp [Deps, Dep, at_, Is] at hD
      go_simp
      exact hK _ _ (Grew.refl _) rfl
    refine ⟨fun a_ wx hR hD K hK => ?_, ?_⟩
    · have hG : Grew w wx := (Grew.drew _).trans hR
      simp [Deps, Dep, at_, Is] at hD
      have e_ := pw_cell_below hG C2.out
      go_simp
      exact hK _ _ (Grew.refl _) rfl
    trivial
  · show EndHold _ _ _ _ _ _ _
    intro v11
    intro v16
    refine end_all (xs := [_, _, _, _, _, _, _, _]) ⟨rfl, rfl, rfl, rfl, rfl, rfl, rfl, rfl, trivial⟩ ?_
    rintro w1 hR1 ⟨⟨-, hE⟩, hApp⟩
    refine ⟨?_⟩
    have hG_w1 : Grew w w1 := (Grew.drew _).trans hR1
    clear hR1
    simp only [Act.put, List.setIfInBounds_toArray, List.set_cons_succ, List.set_cons_zero, dropN, putEach]
    have hro : w1.ownsRow w.heap.size 5 1 v16 (restL l).length (nums .u8 (restL l)) := hApp
    obtain ⟨A5, c5, rfl⟩ := own_slice hro
    have hpd := pad_c n (by rw [HN.out]; have := HL.out; omega) w1
    have HP := Lib.hid hpd
    have HRO := Lib.hid hro
    clear hApp hE hro hpd
    rw [← HNR.out] at HRO ⊢
    go_wp2_with fail
    refine HP.out.mono ?_
    rintro e w2 ⟨v22, rfl, hpo, hg2⟩
    obtain ⟨A6, c6, rfl⟩ := own_slice hpo
    obtain ⟨v3, w3, hrun, hro3, hgr3, hat3⟩ := app_num (P := Try.prog) (k := .u8) w2 w.heap.size 28 5 28 1 Try.underlying28 info5 (by decide) (.slice A5 nr c5) (restL l) (padL n) A6 (padL n).length c6 (by have h := pw_own_below HRO.out hg2; rw [← HNR.out]; exact h) (own_reads' hpo) (Nat.le_trans hG_w1.size hg2.size) (by rw [← HNR.out, padL_len, HNR.out, restL_len]; unfold zN; omega)
    have hu3 : Upd (fun j => (Value.slice A5 nr c5).ownBlock = some j) w2 w3 := (Upd.refl _ _).grown hgr3 (fun j hj => .inl hj)
    have hgw3 : Grew w w3 := Below.trans (Grew.trans hG_w1 hg2) (hu3.below (Grew.trans hG_w1 hg2).size (fun j hj => own_base HRO.out j hj))
    obtain ⟨T, hT⟩ : ∃ T, T = restL l ++ padL n := ⟨_, rfl⟩
    rw [← hT] at hro3
    obtain ⟨A3, c3, rfl⟩ := own_slice hro3
    obtain ⟨m, hm⟩ : ∃ m, m = T.length := ⟨_, rfl⟩
    rw [← hm] at hrun hro3
    have HT := Lib.hid hT
    have HM := Lib.hid hm
    have HRO3 := Lib.hid hro3
    have HG3 := Lib.hid hgw3
    have hcl3 := H0.out.cells.grew hgw3
    have hrange := hashC_range hcl3 kL_len
    have HRng := Lib.hid hrange
    obtain ⟨S1, hS1⟩ : ∃ S1, S1 = stL l := ⟨_, rfl⟩
    rw [← hS1] at HRng
    have hs1l : S1.length = 8 := by rw [hS1]; exact stL_len _
    have HS1 := Lib.hid hS1
    have HSL := Lib.hid hs1l
    clear hT hm hro3 hgw3 hcl3 hrange hS1 hs1l hgr3 hat3 hu3 hpo hg2
    go_wp2_with (first
      | (at_builtin; refine wpList_app (by rfl) (.tmp 16) (.tmp 21) 28 (by rfl) (by rfl) (by rfl) hrun ?_)
      | refine wpList_load_mid (by rfl) 40 (.tmp 25) (by rfl) g 64 (by rfl) (wcells S1) _ HRng.out Try.underlying40 (by rfl) (by rw [wcells_len, HSL.out]; kernel_rfl) ?_
      | refine wpList_store_blk (c := wcells S1) (Blk.new _ 40 (wcells (List.replicate 8 0))) (by rfl) 40 (.tmp 4) (.tmp 26) (by rfl) (by rfl) (by rfl) (by rw [wcells_len, HSL.out]; kernel_rfl) (by rw [wcells_len, wcells_len, HSL.out]; rfl) (wcells_one _) ?_)
    simp only [zeros8]
    obtain ⟨gs, hgs⟩ : ∃ gs, gs = w3.heap.size := ⟨_, rfl⟩
    have hb0 : Blk ((w3.alloc (.cells (wcells (List.replicate 8 0)).toArray 40)).setRow w3.heap.size (wcells S1).toArray) w3.heap.size 40 (wcells S1) := (Blk.new w3 _ _).setRow _
    have hg0 : Grew w3 ((w3.alloc (.cells (wcells (List.replicate 8 0)).toArray 40)).setRow w3.heap.size (wcells S1).toArray) := Grew.setRow (Grew.alloc _ _) (Nat.le_refl _) _
    have hgle : w3.heap.size ≤ gs := by omega
    rw [← hgs] at hb0 hg0 ⊢
    obtain ⟨W5, hW5⟩ : ∃ W5, W5 = ((w3.alloc (.cells (wcells (List.replicate 8 0)).toArray 40)).setRow gs (wcells S1).toArray) := ⟨_, rfl⟩
    rw [← hW5] at hb0 hg0 ⊢
    have hmb : m % 64 = 0 := by rw [HM.out, HT.out, HN.out]; exact (shaL_rest l).2
    have hTb : ∀ y ∈ T, 0 ≤ y ∧ y < 256 := by
      intro y hy
      rw [HT.out] at hy
      rcases List.mem_append.1 hy with h | h
      · exact H0.out.bytes y (List.mem_of_mem_drop h)
      · exact padL_bytes n y h
    have HTB := Lib.hid hTb
    clear hgs hW5 hTb hrun HRng HP
    go_loopw [5] (fun iv wq => ∃ j ij : Nat, iv = .int .i64 (ij : Int) ∧ ij = 64 * j ∧ ij ≤ m ∧ Blk wq gs 40 (wcells (after kL S1 T j)) ∧ Grew w3 wq) (fun iv _ => m - (intOf iv).toNat)
    case atStart => exact ⟨0, 0, rfl, rfl, by omega, hb0, hg0⟩
    case round =>
      obtain ⟨j, ij, rfl, hij, him, hb, hg⟩ := hrel
      clear hb0 hg0
      by_cases hlt : ij < m
      · have d1 : decide ((ij : Int) < (m : Int)) = true := decide_eq_true (by omega)
        obtain ⟨ij2, hij2⟩ : ∃ q, q = ij + 64 := ⟨_, rfl⟩
        have e1 : IntKind.i64.wrap ((ij : Int) + 64) = (ij2 : Int) := by rw [IntWalk.i64_in _ (by have := HM.out; have := HT.out; have h5 : m ≤ 1000000200 := by { rw [HM.out, HT.out, List.length_append, restL_len, padL_len]; unfold zN; omega }; omega)]; omega
        have hle2 : ij2 ≤ m := by omega
        obtain ⟨A7, hs7, hr7, hc7⟩ := print_mid_int (P := Try.prog) (k := .u8) 28 5 (i := _) Try.underlying28 (by rfl) (by rfl) A3 c3 T (ij : Int) (ij2 : Int) (by omega) (by omega) (by rw [← HM.out]; omega) (by rw [← HM.out]; exact own_le HRO3.out)
        have hbk : (T.take (ij2 : Int).toNat).drop (ij : Int).toNat = blkL T j := by
          rw [Int.toNat_natCast, Int.toNat_natCast, List.drop_take, hij2, Nat.add_sub_cancel_left, hij]; rfl
        have hb64 : (blkL T j).length = 64 := by
          unfold blkL
          rw [List.length_take, List.length_drop, ← HM.out]; omega
        rw [hbk, hb64, ← HM.out] at hs7 hr7
        rw [hbk, hb64] at hc7
        obtain ⟨c7, hc7e⟩ : ∃ c7, c7 = c3 - (ij : Int).toNat := ⟨_, rfl⟩
        rw [← hc7e] at hs7 hc7
        obtain ⟨S, hS⟩ : ∃ S, S = after kL S1 T j := ⟨_, rfl⟩
        have hsl : S.length = 8 := by rw [hS]; exact after_len HSL.out _
        have hsw : words S := by rw [hS]; exact after_words (by rw [HS1.out]; exact stL_words _) _
        have hnext : after kL S1 T (j + 1) = mixL kL S (blkL T j) := by rw [hS]; rfl
        have hbb : ∀ y ∈ blkL T j, 0 ≤ y ∧ y < 256 := fun y hy => HTB.out y (List.mem_of_mem_drop (List.mem_of_mem_take hy))
        rw [← hS] at hb
        have HBk := Lib.hid hb
        have HG := Lib.hid hg
        have HSl := Lib.hid hsl
        have HSw := Lib.hid hsw
        have HNext := Lib.hid hnext
        have HBB := Lib.hid hbb
        have HB64 := Lib.hid hb64
        have HR7 := Lib.hid hr7
        have hcr : ∀ w', Grew wr w' → Kd.C (Kd.int .u8) w' A7 64 (blkL T j) := fun w' hg' => C_of (HR7.out w' (own_reads' (pw_own_below HRO3.out (Grew.trans HG.out hg'))))
        have hli : ∀ w', Grew wr w' → Lies w' g kL := fun w' hg' => hashC_lies (H0.out.cells.grew (Grew.trans HG3.out (Grew.trans HG.out hg')))
        have HCR := Lib.hid hcr
        have HLI := Lib.hid hli
        have i0 : (ij : Int) ≤ (ij2 : Int) := by omega
        have HIJ := Lib.hid hij
        have HIJ2 := Lib.hid hij2
        clear hb hg hS hsl hsw hnext hbb hb64 hr7 hcr hli hbk hij2 hc7e hij
        go_wp2_with fail
        apply region_grew [Is _, Is _, Is _, Is _, Is _, Is _, Is _, Is _, Is _] [([(0, none)], none), ([(33, some 0)], none), ([(34, some 1)], none), ([(4, none)], none), ([(3, none)], none), ([(5, none)], none), ([(5, none)], none), ([(39, some 6)], none), ([(37, some 4), (38, some 5), (40, some 7)], none)] [(33, 0), (34, 1), (35, 2), (36, 3), (37, 4), (38, 5), (39, 6), (40, 7), (41, 8)] rfl (by kernel_rfl) (by kernel_rfl) (show Stable Grew _ from ⟨Is.stable _, Is.stable _, Is.stable _, Is.stable _, Is.stable _, Is.stable _, Is.stable _, Is.stable _, Is.stable _, trivial⟩)
        · show OpsHold _ _ _ _ _ _ _ _ _
          refine ⟨fun a_ wx hR hD K hK => ?_, ?_⟩
          · have hG : Grew wr wx := (Grew.drew _).trans hR
            simp [Deps, Dep, at_, Is] at hD
            go_simp
            exact hK _ _ (Grew.refl _) rfl
          refine ⟨fun a_ wx hR hD K hK => ?_, ?_⟩
          · have hG : Grew wr wx := (Grew.drew _).trans hR
            simp [Deps, Dep, at_, Is] at hD
            go_simp
            exact hK _ _ (Grew.refl _) rfl
          refine ⟨fun a_ wx hR hD K hK => ?_, ?_⟩
          · have hG : Grew wr wx := (Grew.drew _).trans hR
            simp [Deps, Dep, at_, Is] at hD
            go_simp
            exact hK _ _ (Grew.refl _) rfl
          refine ⟨fun a_ wx hR hD K hK => ?_, ?_⟩
          · have hG : Grew wr wx := (Grew.drew _).trans hR
            simp [Deps, Dep, at_, Is] at hD
            exact wp_load_mid 40 (.tmp 4) rfl gs 0 (eval_tmp hD) (wcells S) _ (Blk.range0 (HBk.out.grew hG)) Try.underlying40 (by rfl) (by rw [wcells_len, HSl.out]; kernel_rfl) (hK _ _ (Grew.refl _) rfl)
          refine ⟨fun a_ wx hR hD K hK => ?_, ?_⟩
          · have hG : Grew wr wx := (Grew.drew _).trans hR
            simp [Deps, Dep, at_, Is] at hD
            go_simp
            exact hK _ _ (Grew.refl _) rfl
          refine ⟨fun a_ wx hR hD K hK => ?_, ?_⟩
          · have hG : Grew wr wx := (Grew.drew _).trans hR
            simp [Deps, Dep, at_, Is] at hD
            go_simp
            exact hK _ _ (Grew.refl _) rfl
          refine ⟨fun a_ wx hR hD K hK => ?_, ?_⟩
          · have hG : Grew wr wx := (Grew.drew _).trans hR
            simp [Deps, Dep, at_, Is] at hD
            go_simp
            exact hK _ _ (Grew.refl _) rfl
          refine ⟨fun a_ wx hR hD K hK => ?_, ?_⟩
          · have hG : Grew wr wx := (Grew.drew _).trans hR
            simp [Deps, Dep, at_, Is] at hD
            go_simp
            exact hK _ _ (Grew.refl _) rfl
          refine ⟨fun a_ wx hR hD K hK => ?_, ?_⟩
          · have hG : Grew wr wx := (Grew.drew _).trans hR
            simp [Deps, Dep, at_, Is] at hD
            obtain ⟨hd0, hd1, hd2⟩ := hD
            go_simp
            exact hK _ _ (Grew.refl _) rfl
          trivial
        · show EndHold _ _ _ _ _ _ _
          refine end_all (xs := [_, _, _, _, _, _, _, _, _]) ⟨rfl, rfl, rfl, rfl, rfl, rfl, rfl, rfl, rfl, trivial⟩ ?_
          rintro w5 hR1 -
          refine ⟨?_⟩
          have hG_w5 : Grew wr w5 := (Grew.drew _).trans hR1
          clear hR1
          simp only [Act.put, List.setIfInBounds_toArray, List.set_cons_succ, List.set_cons_zero, dropN, putEach]
          go_wp2_with fail
          refine (mix_c w5 g kL S A7 c7 (blkL T j) (HLI.out w5 hG_w5) kL_len kL_words HSl.out HSw.out HB64.out HBB.out (HCR.out w5 hG_w5) hc7).mono ?_
          rintro e w6 ⟨_, rfl, rfl, hg6⟩
          have HB5 := Lib.hid ((HBk.out.grew hG_w5).grew hg6)
          go_wp2_with (refine wpList_store_blk (c := wcells (mixL kL S (blkL T j))) HB5.out (by rfl) 40 (.tmp 4) (.tmp 42) (by rfl) (by rfl) (by rfl) (by rw [wcells_len, mixL_len]; kernel_rfl) (by rw [wcells_len, wcells_len, mixL_len, HSl.out]) (wcells_one _) ?_)
          go_roundw
          case rel =>
            refine ⟨j + 1, ij2, by go_num, by rw [HIJ2.out, HIJ.out]; omega, hle2, ?_, Grew.setRow (Grew.trans (Grew.trans HG.out hG_w5) hg6) hgle _⟩
            rw [HNext.out]
            exact HB5.out.setRow _
          case measure => have := HIJ2.out; simp [intOf]; omega
      · have d1 : decide ((ij : Int) < (m : Int)) = false := decide_eq_false (by omega)
        obtain ⟨SF, hSF⟩ : ∃ SF, SF = after kL S1 T j := ⟨_, rfl⟩
        have hsl : SF.length = 8 := by rw [hSF]; exact after_len HSL.out _
        have hout : shaL l = outL SF := by
          unfold shaL
          rw [← (shaL_rest l).1, hSF, HS1.out, HT.out, HN.out]
          congr 2
          rw [← HN.out, ← HT.out, ← HM.out]
          omega
        rw [← hSF] at hb
        have HOut := Lib.hid hout
        have HBk := Lib.hid hb
        have HSl := Lib.hid hsl
        have hgw : Grew w wr := Grew.trans HG3.out hg
        clear hb hg hSF hsl hout hij
        go_wp2_with (refine wpList_load_blk HBk.out (by rfl) 40 (.tmp 4) (by rfl) (by rfl) _ Try.underlying40 (by rfl) (by rw [wcells_len, HSl.out]; kernel_rfl) ?_)
        go_loopw [6, 44] (fun v6 iv wq => ∃ (i : Nat) (v : Value), v6 = v ∧ iv = .int .i64 (i : Int) ∧ i ≤ 8 ∧ wq.ownsRow w.heap.size 5 1 v (outL (SF.take i)).length (nums .u8 (outL (SF.take i))) ∧ Grew w wq) (fun _ iv _ => 8 - (intOf iv).toNat)
        case atStart => exact ⟨0, _, rfl, rfl, by omega, own_nil _ _ _ _, hgw⟩
        case round =>
          obtain ⟨i, v, rfl, rfl, hi, ho, hg⟩ := hrel
          clear hgw HBk
          by_cases hi8 : i < 8
          · have d1 : decide ((i : Int) < 8) = true := decide_eq_true (by omega)
            have hix := run_index_arr (P := Try.prog) wr 40 _ 8 (wcells SF) .i64 i _ Try.underlying40 (fun _ => by rfl) (fun _ => by rfl) hi8 (cells_get SF i (by rw [HSl.out]; omega))
            have hsucc : outL (SF.take (i + 1)) = outL (SF.take i) ++ outW (SF.getD i 0) := outL_succ SF i (by rw [HSl.out]; omega)
            obtain ⟨y, hy⟩ : ∃ y, y = SF.getD i 0 := ⟨_, rfl⟩
            rw [← hy] at hix hsucc
            obtain ⟨b0, hb0⟩ : ∃ b, b = y / 16777216 % 256 := ⟨_, rfl⟩
            obtain ⟨b1, hb1⟩ : ∃ b, b = y / 65536 % 256 := ⟨_, rfl⟩
            obtain ⟨b2, hb2⟩ : ∃ b, b = y / 256 % 256 := ⟨_, rfl⟩
            obtain ⟨b3, hb3⟩ : ∃ b, b = y % 256 := ⟨_, rfl⟩
            have g0 : (y : Int) / 16777216 % 256 = (b0 : Int) := by omega
            have g1 : (y : Int) / 65536 % 256 = (b1 : Int) := by omega
            have g2 : (y : Int) / 256 % 256 = (b2 : Int) := by omega
            have g3 : (y : Int) % 256 = (b3 : Int) := by omega
            have hw4 : outW y = [(b0 : Int), (b1 : Int), (b2 : Int), (b3 : Int)] := by rw [hb0, hb1, hb2, hb3]; rfl
            rw [hw4] at hsucc
            obtain ⟨A9, c9, rfl⟩ := own_slice ho
            have hol : (outL (SF.take i)).length ≤ 32 := by rw [outL_len, List.length_take]; omega
            obtain ⟨v1, w8, hrun, ho8, hgr8, hat8⟩ := app_num (P := Try.prog) (k := .u8) (wr.alloc (.cells #[.int .u8 (b0 : Int), .int .u8 (b1 : Int), .int .u8 (b2 : Int), .int .u8 (b3 : Int)] 5)) w.heap.size 28 5 28 1 Try.underlying28 info5 (by decide) _ (outL (SF.take i)) [(b0 : Int), (b1 : Int), (b2 : Int), (b3 : Int)] (some ⟨wr.heap.size, 0, none⟩) 4 4 (own_alloc ho _) ((Blk.new wr 5 (nums .u8 [(b0 : Int), (b1 : Int), (b2 : Int), (b3 : Int)])).reads (by simp)) (Nat.le_trans hg.size (by simp)) (by omega)
            have hu8 : Upd (fun j => (Value.slice A9 (outL (SF.take i)).length c9).ownBlock = some j) (wr.alloc (.cells #[.int .u8 (b0 : Int), .int .u8 (b1 : Int), .int .u8 (b2 : Int), .int .u8 (b3 : Int)] 5)) w8 := (Upd.refl _ _).grown hgr8 (fun j hj => .inl hj)
            have hg1 : Grew w (wr.alloc (.cells #[.int .u8 (b0 : Int), .int .u8 (b1 : Int), .int .u8 (b2 : Int), .int .u8 (b3 : Int)] 5)) := Grew.trans hg (Grew.alloc _ _)
            have hgw8 : Grew w w8 := Below.trans hg1 (hu8.below hg1.size (fun j hj => own_base ho j hj))
            rw [← hsucc] at ho8
            obtain ⟨on, hon⟩ : ∃ on, on = (outL (SF.take i)).length := ⟨_, rfl⟩
            rw [← hon] at hrun ⊢
            have HO8 := Lib.hid ho8
            have HG8 := Lib.hid hgw8
            clear hsucc hw4 hb0 hb1 hb2 hb3 hy ho ho8 hgr8 hat8 hu8 hg1 hgw8 hon hol hg
            go_wp2_with (at_builtin; refine wpList_app (by rfl) (.tmp 47) (.tmp 59) 28 (by rfl) (by rfl) (by rfl) hrun ?_)
            go_roundw
            case rel => exact ⟨i + 1, _, rfl, by go_num, by omega, HO8.out, HG8.out⟩
            case measure => simp [intOf]; omega
          · have d1 : decide ((i : Int) < 8) = false := decide_eq_false (by omega)
            obtain rfl : i = 8 := by omega
            rw [List.take_of_length_le (by rw [HSl.out]; omega)] at ho
            have hst := own_string (P := Try.prog) Try.underlying28 Try.underlying5 Try.underlying9 ho
            clear ho
            go_wp2_with fail
            go_ret
            refine ⟨_, rfl, ?_, hg⟩
            rw [HOut.out]
            rfl
end Go.Proofs.Ytphkohdfdkmpcaa.F

-- ShaV
namespace Go.Proofs.Ytphkohdfdkmpcaa.F
open Go Go.RowKit Go.Proofs.YtphkohdfdkmpcaaW.PrintWords Go.Proofs.YtphkohdfdkmpcaaW.PrintLast Go.Proofs.YtphkohdfdkmpcaaW.PrintMore Go.Proofs.YtphkohdfdkmpcaaR
attribute [local go_sem] max2_int min2_int max_two min_two
set_option linter.unusedSimpArgs false
set_option linter.unusedVariables false
set_option maxRecDepth 100000
theorem HS.low {g B : Nat} {rv : Value} {w : World} {l : List Int} {N : Nat} (h : HashA g N l rv B w) : ∀ k, HS g rv k → B ≤ k := fun k hk => hk.elim (fun e => by rw [e]; exact h.low) (fun e => own_base h.row k e)
set_option maxHeartbeats 4000000 in
theorem sum1_c (w : World) (A : Option Addr) (c n : Nat) (x : List Int) (hC : Kd.C (Kd.int .u8) w A n x) (hn : x.length = n) (hc : n ≤ c) (hx : n ≤ 1000000000) (hb : ∀ y ∈ x, 0 ≤ y ∧ y < 256) :
    Calls Try.prog 18 #[.slice A n c] w (Tells w (Is (.string (strOfNums (shaL x))))) := by
  subst hn
  have HC := Lib.hid hC
  have HX := Lib.hid hx
  have HB := Lib.hid hb
  have HCC := Lib.hid hc
  obtain ⟨n, hn⟩ : ∃ n, n = x.length := ⟨_, rfl⟩
  rw [← hn]
  have HN := Lib.hid hn
  clear hC hx hb hc hn
  go_enter Try.func18, Try.ntmps18
  go_wp2_with fail
  refine (new_h w).mono ?_
  rintro e w1 ⟨_, rfl, ⟨g, rfl, hh⟩, hg1⟩
  have hlow := HS.low hh
  have hw := write_c (l := []) w1 A c x hh hg1.size (fun w' hu => Kd.C_below HC.out (Below.trans hg1 (hu.below hg1.size hlow))) HCC.out (by simpa using HX.out) HB.out
  rw [← HN.out] at hw
  have HW := Lib.hid hw
  clear hw
  go_wp2_with fail
  refine HW.out.mono ?_
  rintro e w2 ⟨_, rfl, ⟨rfl, rv, hh2, -⟩, hu2⟩
  have hg2 : Grew w w2 := Below.trans hg1 (hu2.below hg1.size hlow)
  rw [List.nil_append] at hh2
  have e1 : ([] : List Int).length + n = x.length := by rw [← HN.out]; simp
  rw [e1] at hh2
  have hs := sum_c w2 hh2 HX.out
  have HS := Lib.hid hs
  clear hs hh2 hh
  go_wp2_with fail
  refine HS.out.mono ?_
  rintro e w3 ⟨_, rfl, rfl, hg3⟩
  go_wp2_with fail
  go_ret
  exact ⟨_, rfl, rfl, Grew.trans hg2 hg3⟩
end Go.Proofs.Ytphkohdfdkmpcaa.F

-- ShaE
namespace Go.Proofs.Ytphkohdfdkmpcaa.F
open Go Go.RowKit
set_option linter.unusedSimpArgs false
set_option linter.unusedVariables false
set_option maxRecDepth 100000
theorem kL_lit : kL = [1116352408, 1899447441, 3049323471, 3921009573, 961987163, 1508970993, 2453635748, 2870763221, 3624381080, 310598401, 607225278, 1426881987, 1925078388, 2162078206, 2614888103, 3248222580, 3835390401, 4022224774, 264347078, 604807628, 770255983, 1249150122, 1555081692, 1996064986, 2554220882, 2821834349, 2952996808, 3210313671, 3336571891, 3584528711, 113926993, 338241895, 666307205, 773529912, 1294757372, 1396182291, 1695183700, 1986661051, 2177026350, 2456956037, 2730485921, 2820302411, 3259730800, 3345764771, 3516065817, 3600352804, 4094571909, 275423344, 430227734, 506948616, 659060556, 883997877, 958139571, 1322822218, 1537002063, 1747873779, 1955562222, 2024104815, 2227730452, 2361852424, 2428436474, 2756734187, 3204031479, 3329325298] := by decide +kernel
theorem s0L_lit : s0L = [1779033703, 3144134277, 1013904242, 2773480762, 1359893119, 2600822924, 528734635, 1541459225] := by decide +kernel
theorem ws_nil : ws (128 :: List.replicate 63 0) 64 = [2147483648, 0, 0, 0, 0, 0, 0, 0, 0, 0, 0, 0, 0, 0, 0, 0, 2147483648, 0, 2117632, 0, 570427392, 0, 84448578, 2147483648, 1476919296, 4235264, 1451269, 1711282176, 3592562048, 337794312, 3594910044, 3374850048, 3287351444, 676112230, 109604294, 2742808854, 1904000662, 4274181962, 2813755136, 2165675682, 2561075048, 62000258, 1562224585, 2975250741, 3286092305, 614207615, 3297584367, 1575308336, 3741240933, 748767245, 1008022316, 30329261, 369937616, 195877528, 907775968, 3526495142, 43741191, 1967544444, 133517113, 4161330627, 3704256008, 1581412744, 1153231965, 996066459] := by decide +kernel
theorem rn_nil : (rn [1116352408, 1899447441, 3049323471, 3921009573, 961987163, 1508970993, 2453635748, 2870763221, 3624381080, 310598401, 607225278, 1426881987, 1925078388, 2162078206, 2614888103, 3248222580, 3835390401, 4022224774, 264347078, 604807628, 770255983, 1249150122, 1555081692, 1996064986, 2554220882, 2821834349, 2952996808, 3210313671, 3336571891, 3584528711, 113926993, 338241895, 666307205, 773529912, 1294757372, 1396182291, 1695183700, 1986661051, 2177026350, 2456956037, 2730485921, 2820302411, 3259730800, 3345764771, 3516065817, 3600352804, 4094571909, 275423344, 430227734, 506948616, 659060556, 883997877, 958139571, 1322822218, 1537002063, 1747873779, 1955562222, 2024104815, 2227730452, 2361852424, 2428436474, 2756734187, 3204031479, 3329325298] [2147483648, 0, 0, 0, 0, 0, 0, 0, 0, 0, 0, 0, 0, 0, 0, 0, 2147483648, 0, 2117632, 0, 570427392, 0, 84448578, 2147483648, 1476919296, 4235264, 1451269, 1711282176, 3592562048, 337794312, 3594910044, 3374850048, 3287351444, 676112230, 109604294, 2742808854, 1904000662, 4274181962, 2813755136, 2165675682, 2561075048, 62000258, 1562224585, 2975250741, 3286092305, 614207615, 3297584367, 1575308336, 3741240933, 748767245, 1008022316, 30329261, 369937616, 195877528, 907775968, 3526495142, 43741191, 1967544444, 133517113, 4161330627, 3704256008, 1581412744, 1153231965, 996066459] 64 (St.of [1779033703, 3144134277, 1013904242, 2773480762, 1359893119, 2600822924, 528734635, 1541459225])).list = [2040978907, 3717492111, 1586299222, 4095722474, 3600805733, 3382061760, 2232532848, 477227836] := by decide +kernel
theorem sha_nil : shaL [] = [227, 176, 196, 66, 152, 252, 28, 20, 154, 251, 244, 200, 153, 111, 185, 36, 39, 174, 65, 228, 100, 155, 147, 76, 164, 149, 153, 27, 120, 82, 184, 85] := by
  have h1 : fullL [] = 128 :: List.replicate 63 0 := by decide +kernel
  have h2 : blkL (128 :: List.replicate 63 0) 0 = 128 :: List.replicate 63 0 := by decide +kernel
  unfold shaL
  rw [h1, show (128 :: List.replicate 63 0 : List Int).length / 64 = 1 from by decide +kernel]
  show outL (mixL kL s0L (blkL (128 :: List.replicate 63 0) 0)) = _
  rw [h2]
  unfold mixL
  rw [ws_nil, kL_lit, s0L_lit, rn_nil]
  decide +kernel
theorem root2_sq : rootL 2 false 49 0 % 4294967296 = 1779033703 := by decide +kernel
theorem root2_cu : rootL 2 true 49 0 % 4294967296 = 1116352408 := by decide +kernel
end Go.Proofs.Ytphkohdfdkmpcaa.F

-- ShaY
namespace Go.Proofs.Ytphkohdfdkmpcaa.F
open Go Go.RowKit Go.Proofs.YtphkohdfdkmpcaaW.PrintWords Go.Proofs.YtphkohdfdkmpcaaW.PrintLast Go.Proofs.YtphkohdfdkmpcaaW.PrintMore Go.Proofs.YtphkohdfdkmpcaaR
attribute [local go_sem] max2_int min2_int max_two min_two
set_option linter.unusedSimpArgs false
set_option linter.unusedVariables false
set_option maxRecDepth 100000
/-- the world of the reference's mixing: the words, the state, the result and the schedule lie in four blocks of its own -/
structure MixR (w : World) (ks s x : List Nat) (wr : World) : Prop where
  bk : Blk wr w.heap.size 45 (wcells ks)
  b0 : Blk wr (w.heap.size + 1) 40 (wcells s)
  b1 : Blk wr (w.heap.size + 1 + 1) 40 (wcells (List.replicate 8 0))
  b2 : Blk wr (w.heap.size + 1 + 1 + 1) 45 (wcells x)
  gr : Grew w wr
theorem MixR.grew {w : World} {ks s x : List Nat} {wr w' : World} (h : MixR w ks s x wr) (hg : Grew wr w') : MixR w ks s x w' := ⟨h.bk.grew hg, h.b0.grew hg, h.b1.grew hg, h.b2.grew hg, h.gr.trans hg⟩
theorem MixR.set2 {w : World} {ks s x : List Nat} {wr : World} (h : MixR w ks s x wr) (i v : Nat) : MixR w ks s (x.set i v) (wr.setCell ⟨w.heap.size + 1 + 1 + 1, i, none⟩ (.int .u32 (v : Int))) :=
  ⟨h.bk.far (by simp <;> omega) _, h.b0.far (by simp <;> omega) _, h.b1.far (by simp) _, by rw [← wcells_set]; exact h.b2.set i _, Grew.setCell_new h.gr (by simp <;> omega) _⟩
theorem MixR.set0 {w : World} {ks s x : List Nat} {wr : World} (h : MixR w ks s x wr) (i v : Nat) : MixR w ks (s.set i v) x (wr.setCell ⟨w.heap.size + 1, i, none⟩ (.int .u32 (v : Int))) :=
  ⟨h.bk.far (by simp) _, by rw [← wcells_set]; exact h.b0.set i _, h.b1.far (by simp) _, h.b2.far (by simp <;> omega) _, Grew.setCell_new h.gr (by simp) _⟩
/-- .. and the rounds' words in a fifth one -/
structure MixZ (w : World) (ks s x z : List Nat) (gz : Nat) (wr : World) : Prop where
  m : MixR w ks s x wr
  bz : Blk wr gz 40 (wcells z)
  hg : w.heap.size + 1 + 1 + 1 < gz
theorem MixR.row {w : World} {ks s x : List Nat} {wr : World} (h : MixR w ks s x wr) {gz : Nat} (hg : w.heap.size + 1 + 1 + 1 < gz) (c : Array Value) : MixR w ks s x (wr.setRow gz c) :=
  ⟨h.bk.farRow (by omega) _, h.b0.farRow (by omega) _, h.b1.farRow (by omega) _, h.b2.farRow (by omega) _, Grew.setRow h.gr (by omega) _⟩
theorem MixZ.grew {w : World} {ks s x z : List Nat} {gz : Nat} {wr w' : World} (h : MixZ w ks s x z gz wr) (hg : Grew wr w') : MixZ w ks s x z gz w' := ⟨h.m.grew hg, h.bz.grew hg, h.hg⟩
theorem MixZ.set0 {w : World} {ks s x z : List Nat} {gz : Nat} {wr : World} (h : MixZ w ks s x z gz wr) (i v : Nat) : MixZ w ks (s.set i v) x z gz (wr.setCell ⟨w.heap.size + 1, i, none⟩ (.int .u32 (v : Int))) :=
  ⟨h.m.set0 i v, h.bz.far (by have := h.hg; simp; omega) _, h.hg⟩
end Go.Proofs.Ytphkohdfdkmpcaa.F

-- ShaL
namespace Go.Proofs.Ytphkohdfdkmpcaa.F
open Go Go.RowKit Go.Proofs.YtphkohdfdkmpcaaW.PrintWords Go.Proofs.YtphkohdfdkmpcaaW.PrintLast Go.Proofs.YtphkohdfdkmpcaaW.PrintMore Go.Proofs.YtphkohdfdkmpcaaR
set_option linter.unusedSimpArgs false
set_option linter.unusedVariables false
set_option maxRecDepth 100000
end Go.Proofs.Ytphkohdfdkmpcaa.F

-- ShaR
namespace Go.Proofs.Ytphkohdfdkmpcaa.F
open Go Go.RowKit Go.Proofs.YtphkohdfdkmpcaaW.PrintWords Go.Proofs.YtphkohdfdkmpcaaW.PrintLast Go.Proofs.YtphkohdfdkmpcaaW.PrintMore Go.Proofs.YtphkohdfdkmpcaaR
attribute [local go_sem] max2_int min2_int max_two min_two
set_option linter.unusedSimpArgs false
set_option linter.unusedVariables false
set_option maxRecDepth 100000
theorem str_extract (l : List Int) (a b : Nat) : (strOfNums l).extract a b = strOfNums ((l.drop a).take (b - a)) := by
  show (ByteArray.mk (l.map fun n => UInt8.ofNat n.toNat).toArray).extract a b = ByteArray.mk (((l.drop a).take (b - a)).map fun n => UInt8.ofNat n.toNat).toArray
  rw [ByteArray.extract_mk, List.map_take, List.map_drop]
/-- bytes that may be read -/
def RowV (n : Nat) (l : List Int) : World → Value → Prop := fun w v => ∃ A c, v = .slice A n c ∧ Kd.C (Kd.int .u8) w A n l
theorem RowV.stable (n : Nat) (l : List Int) : ∀ w w' v, Grew w w' → RowV n l w v → RowV n l w' v := fun _ _ _ hg ⟨A, c, h1, h2⟩ => ⟨A, c, h1, Kd.C_below h2 hg⟩
end Go.Proofs.Ytphkohdfdkmpcaa.F

-- ShaZ
namespace Go.Proofs.Ytphkohdfdkmpcaa.F
open Go Go.RowKit Go.Proofs.YtphkohdfdkmpcaaW.PrintWords Go.Proofs.YtphkohdfdkmpcaaW.PrintLast Go.Proofs.YtphkohdfdkmpcaaW.PrintMore Go.Proofs.YtphkohdfdkmpcaaR
attribute [local go_sem] max2_int min2_int max_two min_two
set_option linter.unusedSimpArgs false
set_option linter.unusedVariables false
set_option maxRecDepth 100000
theorem results_blk_t {P : Program} {fn : Func} {p u : Tmp} {ty : TypeId} (h : fn.results = #[.cell p ty, .tmp u]) (tmps : Array Value) {w : World} {g : Nat} {t : TypeId} {cs : List Value} (hg : Blk w g t cs) (d : TypeDesc)
    (hp : tmps.getD p undef = .pointer (some ⟨g, 0, none⟩))
    (hu : P.underlying ty = some d) (hd : d.isRow = true) (hi : (P.info? ty).map (·.size) = some cs.length) :
    (results fn tmps).run P w = .ok (.tuple #[.agg cs.toArray, tmps.getD u undef]) w := by
  have hp' : tmps[p]?.getD undef = .pointer (some ⟨g, 0, none⟩) := by simpa using hp
  simp [results, h, hp', asAddr, run_loadVar_row w g t ty cs.toArray (0, 0) d hg hu (by cases d <;> simp_all) (by simpa using hi)]
set_option maxHeartbeats 4000000 in
theorem mixO_c (w : World) (s : List Nat) (A : Option Addr) (c : Nat) (l : List Int) (hsl : s.length = 8) (hsw : words s) (hl : l.length = 64) (hlb : ∀ x ∈ l, 0 ≤ x ∧ x < 256) (hC : Kd.C (Kd.int .u8) w A 64 l) (hc : 64 ≤ c) :
    Calls Try.prog 23 #[.agg (wcells s).toArray, .slice A 64 c] w (Tells w (Is (.tuple #[.agg (wcells (mixL kL s l)).toArray, .int .i64 0]))) := by
  go_enter Try.func23, Try.ntmps23
  go_wp2_with fail
  rw [zeros8]
  have hm0 : Blk ((w.alloc (.cells (wcells s).toArray 40)).alloc (.cells (wcells (List.replicate 8 0)).toArray 40)) w.heap.size 40 (wcells s) := (Blk.new w _ _).grew (Grew.alloc _ _)
  have hm1 : Blk ((w.alloc (.cells (wcells s).toArray 40)).alloc (.cells (wcells (List.replicate 8 0)).toArray 40)) (w.heap.size + 1) 40 (wcells (List.replicate 8 0)) := by simpa using Blk.new (w.alloc (.cells (wcells s).toArray 40)) 40 (wcells (List.replicate 8 0))
  have hg0 : Grew w ((w.alloc (.cells (wcells s).toArray 40)).alloc (.cells (wcells (List.replicate 8 0)).toArray 40)) := (Grew.alloc _ _).trans (Grew.alloc _ _)
  obtain ⟨W, hW⟩ : ∃ W, W = ((w.alloc (.cells (wcells s).toArray 40)).alloc (.cells (wcells (List.replicate 8 0)).toArray 40)) := ⟨_, rfl⟩
  rw [← hW] at hm0 hm1 hg0 ⊢
  clear hW
  refine (roots_c W).mono ?_
  rintro e w2 ⟨_, rfl, rfl, hg2⟩
  have H0 := Lib.hid (hm0.grew hg2)
  have H1 := Lib.hid (hm1.grew hg2)
  have HG := Lib.hid (Grew.trans hg0 hg2)
  have HS := Lib.hid hsl
  clear hm0 hm1 hg0 hg2 hsl
  go_wp2_with (first
    | refine wpList_store_blk (c := wcells kL) (Blk.new _ 45 (wcells (arr64 []))) (by rfl) 45 (.tmp 6) (.tmp 11) (by rfl) (by rfl) (by rfl) (by rw [wcells_len, kL_len]; kernel_rfl) (by rw [wcells_len, wcells_len, kL_len]; rfl) (wcells_one _) ?_
    | refine wpList_load_blk (((H0.out).grew (Grew.alloc _ (.cells (wcells (arr64 [])).toArray 45))).farRow (by have := H0.out.lt; omega) (wcells kL).toArray) (by rfl) 40 (.tmp 2) (by rfl) (by rfl) _ Try.underlying40 (by rfl) (by rw [wcells_len, HS.out]; kernel_rfl) ?_)
  simp only [zeros64]
  have hk3 : Blk ((w2.alloc (.cells (wcells (arr64 [])).toArray 45)).setRow w2.heap.size (wcells kL).toArray) w2.heap.size 45 (wcells kL) := (Blk.new _ _ _).setRow _
  have hg3 : Grew w2 ((w2.alloc (.cells (wcells (arr64 [])).toArray 45)).setRow w2.heap.size (wcells kL).toArray) := Grew.setRow (Grew.alloc _ _) (Nat.le_refl _) _
  obtain ⟨w3, hw3⟩ : ∃ w3, w3 = ((w2.alloc (.cells (wcells (arr64 [])).toArray 45)).setRow w2.heap.size (wcells kL).toArray) := ⟨_, rfl⟩
  rw [← hw3] at hk3 hg3 ⊢
  clear hw3
  have hmx := mix_c w3 w2.heap.size kL s A c l (Blk.lies hk3) kL_len kL_words HS.out hsw hl hlb (Kd.C_below hC (Grew.trans HG.out hg3)) hc
  refine hmx.mono ?_
  rintro e w4 ⟨_, rfl, rfl, hg4⟩
  have H4 := Lib.hid ((H1.out.grew hg3).grew hg4)
  have HG4 := Lib.hid (Grew.trans (Grew.trans HG.out hg3) hg4)
  clear hmx hk3 hg3 hg4 H0 H1 HG hl
  go_wp2_with (refine wpList_store_blk (c := wcells (mixL kL s l)) H4.out (by rfl) 40 (.tmp 4) (.tmp 14) (by rfl) (by rfl) (by rfl) (by rw [wcells_len, mixL_len]; kernel_rfl) (by rw [wcells_len, wcells_len, mixL_len]; rfl) (wcells_one _) ?_)
  refine bodyPost_ret (results_blk_t rfl _ (H4.out.setRow (wcells (mixL kL s l))) _ (by rfl) Try.underlying40 (by rfl) (by rw [wcells_len, mixL_len]; kernel_rfl)) rfl ?_
  exact ⟨_, rfl, rfl, Grew.setRow HG4.out (by omega) _⟩
end Go.Proofs.Ytphkohdfdkmpcaa.F

-- ShaJ
namespace Go.Proofs.Ytphkohdfdkmpcaa.F
open Go Go.Lib Go.RowKit Go.Proofs.YtphkohdfdkmpcaaW.PrintWords Go.Proofs.YtphkohdfdkmpcaaW.PrintLast Go.Proofs.YtphkohdfdkmpcaaW.PrintMore Go.Proofs.YtphkohdfdkmpcaaR
attribute [local go_sem] max2_int min2_int max_two min_two
set_option linter.unusedSimpArgs false
set_option linter.unusedVariables false
set_option maxRecDepth 100000
theorem lives_c (w : World) : Calls Try.prog 13 #[] w (Tells w (Is (.bool true))) := by
  have hs := sum1_c w none 0 0 [] (Kd.C_of_reads (d := (0 : Int)) (h1 := fun _ => rfl) (ReadsInt.nil w .u8)) rfl (Nat.le_refl _) (by omega) (by simp)
  rw [sha_nil] at hs
  have hr1 := fun w => root_c 2 (by omega) false w
  have hr2 := fun w => root_c 2 (by omega) true w
  simp only [root2_sq, root2_cu] at hr1 hr2
  have HS := Lib.hid hs
  have H1 := Lib.hid hr1
  have H2 := Lib.hid hr2
  clear hs hr1 hr2
  go_enter Try.func13, Try.ntmps13
  go_wp2_with fail
  refine HS.out.mono ?_
  rintro e w1 ⟨_, rfl, rfl, hg1⟩
  go_wp2_with fail
  refine (H1.out w1).mono ?_
  rintro e w2 ⟨_, rfl, rfl, hg2⟩
  go_wp2_with fail
  refine (H2.out w2).mono ?_
  rintro e w3 ⟨_, rfl, rfl, hg3⟩
  go_wp2_with fail
  have hb : ((strOfNums [227, 176, 196, 66, 152, 252, 28, 20, 154, 251, 244, 200, 153, 111, 185, 36, 39, 174, 65, 228, 100, 155, 147, 76, 164, 149, 153, 27, 120, 82, 184, 85]).extract 0 4).toList == [227, 176, 196, 66] := by
    rw [str_extract, toList_data]; rfl
  go_ret
  refine ⟨_, rfl, ?_, Grew.trans (Grew.trans hg1 hg2) hg3⟩
  show Value.bool _ = Value.bool true
  rw [hb]
end Go.Proofs.Ytphkohdfdkmpcaa.F

-- RegQ
namespace Go.Proofs.YtphkohdfdkmpcaaR
open Go Go.RowKit
set_option linter.unusedSimpArgs false
set_option linter.unusedVariables false
section
variable (P : Program) (Q : Exit → Act → World → Prop) (R : World → World → Prop) (Rp : Act → World → World → Prop) (V : Nat → World → Value → Prop) (a0 : Act) (w0 : World) (E : Act → World → Prop)
def PhGoalQ (o : Oper) (g : GuardT) (i : Nat) (r : Reads) : Phase → Prop
  | .plain => ∀ a w, R w0 w → Deps V a0 a w r → OpGoal P Q R V o g i a w
  | .float => ∀ a w, Deps V a0 a w r → OpGoal P Q (fun w w' => w' = w) V o g i a w
  | .big => o.guard = none ∧ ∀ a w, R w0 w → Deps V a0 a w r → ∀ K : Act → World → Prop, (∀ v w', Rp (a.put o.dst v) w w' → V i w' v → K (a.put o.dst v) w') → o.wp P a w K Q
def PhHoldQ : Nat → List Oper → List (Reads × GuardT) → List Phase → Prop
  | i, o :: os, (r, g) :: rs, k :: ks => PhGoalQ P Q R Rp V a0 w0 o g i r k ∧ PhHoldQ (i + 1) os rs ks
  | _, _, _, _ => True
end

section
variable {P : Program} {ops : Array Oper} {Q : Exit → Act → World → Prop} {R : World → World → Prop} {Rp : Act → World → World → Prop} {V : Nat → World → Value → Prop} {a0 : Act} {w0 : World} {E : Act → World → Prop}
theorem phHold_atQ : ∀ (os : List Oper) (rs : List (Reads × GuardT)) (ks : List Phase) (k i : Nat) (o : Oper) (r : Reads) (g : GuardT) (p : Phase), PhHoldQ P Q R Rp V a0 w0 k os rs ks → os[i]? = some o → rs[i]? = some (r, g) → ks[i]? = some p →
    PhGoalQ P Q R Rp V a0 w0 o g (k + i) r p
  | [], _, _, _, i, o, r, g, p, _, ho, _, _ => by simp at ho
  | o' :: os, [], _, _, i, o, r, g, p, _, _, hr, _ => by simp at hr
  | o' :: os, (r', g') :: rs, [], _, i, o, r, g, p, _, _, _, hk => by simp at hk
  | o' :: os, (r', g') :: rs, p' :: ks, k, 0, o, r, g, p, h, ho, hr, hk => by
    simp at ho hr hk
    obtain ⟨rfl, rfl⟩ := hr
    subst ho
    subst hk
    exact h.1
  | o' :: os, (r', g') :: rs, p' :: ks, k, i + 1, o, r, g, p, h, ho, hr, hk => by
    have := phHold_atQ os rs ks (k + 1) i o r g p h.2 (by simpa using ho) (by simpa using hr) (by simpa using hk)
    rw [show k + 1 + i = k + (i + 1) from by omega] at this
    exact this
/-- what is known between two operations -/
structure InvQ (ops : Array Oper) (m : Nat) (R : World → World → Prop) (Rp : Act → World → World → Prop) (V : Nat → World → Value → Prop) (ks : List Phase) (a0 : Act) (w0 : World) (listed : Array Bool) (a : Act) (w : World) : Prop where
  early : ¬ BigIn ks listed → R w0 w
  late : BigIn ks listed → ∃ w1, R w0 w1 ∧ Rp a w1 w
  size : a.tmps.size = a0.tmps.size
  defers : a.defers = a0.defers
  lsize : listed.size = ops.size
  closed : Closed ops listed
  tail : ∀ j, m ≤ j → listed.getD j false = false
  tmps : ∀ t, match lastW ops (fun j => listed.getD j false) t with
    | some j => V j w (a.tmps[t]?.getD undef)
    | none => a.tmps[t]?.getD undef = a0.tmps[t]?.getD undef
theorem wpAny_invQ {A : List Nat} {reads : List (Reads × GuardT)} {ks : List Phase} (hA : edgesOk ops A = true) (hP : pairsOk ops A = true) (hR : readsOk ops reads a0.tmps.size = true) (hT : tailOk ops A reads.length = true)
    (hrf : ∀ w, R w w) (htr : ∀ a b c, R a b → R b c → R a c) (hK : phaseOk A ks reads.length = true)
    (hst : ∀ i, ks[i]? ≠ some .big → ∀ w w' v, R w w' ∨ (∃ a, Rp a w w') → V i w v → V i w' v)
    (hfl : ∀ (i : Nat) (o : Oper), ks[i]? = some .float → ops[i]? = some o → ∀ a w1 w v, Rp a w1 w → Rp (a.put o.dst v) w1 w)
    (hops : PhHoldQ P Q R Rp V a0 w0 0 ops.toList reads ks)
    (hend : ∀ listed a w, (∀ j, listed.getD j false = decide (j < reads.length)) → InvQ ops reads.length R Rp V ks a0 w0 listed a w → wpList P ops Q (ops.toList.drop reads.length) a w) :
    ∀ (fuel : Nat) (listed : Array Bool) (a : Act) (w : World), listed.toList.count false ≤ fuel → InvQ ops reads.length R Rp V ks a0 w0 listed a w → wpAny P .any ops Q fuel listed a w := by
  have hT0 := hT
  simp only [tailOk, Bool.and_eq_true, decide_eq_true_eq, List.all_eq_true, Bool.or_eq_true, List.mem_range] at hT0
  -- when all of the head has come up
  have fin : ∀ (fuel : Nat) (listed : Array Bool) (a : Act) (w : World), listed.toList.count false ≤ fuel → InvQ ops reads.length R Rp V ks a0 w0 listed a w → (∀ j, j < reads.length → listed.getD j false = true) → wpAny P .any ops Q fuel listed a w := by
    intro fuel listed a w hf hi hall
    have hl : ∀ j, listed.getD j false = decide (j < reads.length) := by
      intro j
      rcases Nat.lt_or_ge j reads.length with h | h
      · rw [hall j h]; simp [h]
      · rw [hi.tail j h]; simp; omega
    refine wpAny_tail hA hT fuel reads.length listed a w (Nat.le_refl _) ?_ hT0.1 hi.lsize hl (hend listed a w hl hi)
    -- those that are not listed are as many as the tail is long
    have : (listed.toList.drop reads.length).count false = listed.size - reads.length := by
      have h1 : listed.toList.drop reads.length = List.replicate (listed.size - reads.length) false := by
        refine List.ext_getElem (by simp) fun j h1 h2 => ?_
        simp only [List.getElem_drop, List.getElem_replicate]
        have h3 : reads.length + j < listed.size := by simp at h1; omega
        have h4 := hi.tail (reads.length + j) (by omega)
        simpa [h3] using h4
      rw [h1, List.count_replicate_self]
    have h2 : (listed.toList.drop reads.length).count false ≤ listed.toList.count false := List.Sublist.count_le _ (List.drop_sublist _ _)
    have := hi.lsize
    omega
  -- before that, nothing of the tail may come up
  have low : ∀ (listed : Array Bool), listed.size = ops.size → Closed ops listed → ∀ i, i ∈ Region.ready .any ops listed → reads.length ≤ i → ∀ j, j < reads.length → listed.getD j false = true := by
    intro listed hs hc i hi hm j hj
    obtain ⟨hun, o, ho, hd⟩ := mem_ready.1 hi
    have hisz := (Array.getElem?_eq_some_iff.1 ho).1
    exact closed_anc hA hc i o ho hd j ((hT0.2 i hisz).resolve_left (by omega) j (by omega))
  intro fuel
  induction fuel with
  | zero =>
    intro listed a w hf hi
    refine fin 0 listed a w hf hi fun j hj => ?_
    have hjs : j < listed.size := by have := hi.lsize; omega
    cases hl : listed.getD j false with
    | true => rfl
    | false =>
      exfalso
      have hv : listed[j] = false := by simpa [hjs] using hl
      have : 0 < listed.toList.count false := List.count_pos_iff.2 (by rw [← hv]; simp)
      omega
  | succ fuel ih =>
    intro listed a w hf hi
    by_cases hall : ∀ j, j < reads.length → listed.getD j false = true
    · exact fin (fuel + 1) listed a w hf hi hall
    refine ⟨fun h => absurd (fun j hj => all_of_ready rfl hA hi.lsize h j (by omega)) hall, fun i hir => ?_⟩
    have him : i < reads.length := by
      rcases Nat.lt_or_ge i reads.length with h | h
      · exact h
      · exact absurd (low listed hi.lsize hi.closed i hir h) hall
    obtain ⟨hun, o, ho, hdeps⟩ := mem_ready.1 hir
    have hisz : i < ops.size := (Array.getElem?_eq_some_iff.1 ho).1
    have hun' : listed.getD i false = false := by rw [getD_irrel (by rw [hi.lsize]; exact hisz) false true]; exact hun
    simp only [readsOk, List.all_eq_true] at hR
    have hRi := hR i (List.mem_range.2 him)
    have hri : reads[i]? = some (reads[i]'(by omega)) := List.getElem?_eq_getElem (by omega)
    generalize hrg : reads[i]'(by omega) = rg at hri
    obtain ⟨r, g⟩ := rg
    rw [ho, hri] at hRi
    simp only [Bool.and_eq_true, List.all_eq_true] at hRi
    obtain ⟨⟨hr, hdst⟩, hg⟩ := hRi
    -- ancestors of i are listed; descendants are not
    have hanc : ∀ k, (A.getD i 0).testBit k = true → listed.getD k false = true := closed_anc hA hi.closed i o ho hdeps
    have hdesc : ∀ j oj, ops[j]? = some oj → (A.getD j 0).testBit i = true → listed.getD j false = false := by
      intro j oj hoj hb
      cases hl : listed.getD j false with
      | false => rfl
      | true =>
        have := closed_anc hA hi.closed j oj hoj (hi.closed j oj hoj hl) i hb
        rw [this] at hun'; cases hun'
    have pair : ∀ i' j' oi' oj', i' < j' → ops[i']? = some oi' → ops[j']? = some oj' → (A.getD j' 0).testBit i' = true ∨ ((∀ t, oi'.dst = some t → t ∉ names ops oj') ∧ ∀ t, oj'.dst = some t → t ∉ oi'.looksAt ops) := by
      intro i' j' oi' oj' hlt hoi hoj
      have h1 := List.all_eq_true.1 hP j' (List.mem_range.2 (Array.getElem?_eq_some_iff.1 hoj).1)
      simp only [hoj, List.all_eq_true, List.mem_range] at h1
      have h2 := h1 i' hlt
      simp only [hoi, Bool.or_eq_true, Bool.and_eq_true] at h2
      rcases h2 with h2 | ⟨h2, h3⟩
      · exact .inl h2
      · refine .inr ⟨fun t ht => ?_, fun t ht => ?_⟩
        · simp [ht] at h2; exact h2
        · simp [ht] at h3; exact h3
    -- the writers that are listed of what i looks at are those ahead of it
    have hlook : ∀ t ∈ o.looksAt ops, lastW ops (fun j => listed.getD j false) t = lastW ops (fun j => decide (j < i)) t := by
      intro t ht
      refine lastW_congr fun j oj hoj hd => ?_
      rcases Nat.lt_trichotomy j i with hlt | rfl | hgt
      · have := (pair j i oj o hlt hoj ho).resolve_right (fun h => h.1 t hd (List.mem_append_right _ ht))
        simp [hlt, hanc j this]
      · simp [hun']
      · have := (pair i j o oj hgt ho hoj).resolve_right (fun h => h.2 t hd ht)
        rw [hdesc j oj hoj this]
        symm; simp; omega
    have hD : Deps V a0 a w r := by
      refine deps_of a w r fun ⟨t, j⟩ hx => ?_
      have h1 := hr (t, j) hx
      simp only [beq_iff_eq, List.contains_iff_mem] at h1
      have h2 := hi.tmps t
      rw [hlook t h1.1, h1.2] at h2
      cases j <;> exact h2
    simp only [phaseOk, Bool.and_eq_true, beq_iff_eq, List.all_eq_true, List.mem_range] at hK
    have hki : ks[i]? = some (ks[i]'(by omega)) := List.getElem?_eq_getElem (by omega)
    generalize hkk : ks[i]'(by omega) = kd at hki
    have hgoal := phHold_atQ ops.toList reads ks 0 i o r g kd hops (by simpa using ho) hri hki
    rw [Nat.zero_add] at hgoal
    have big_all : ∀ p, ks[p]? = some .big → ∀ j, j < reads.length → j ≠ p → ks[j]? = some .float ∨ (A.getD p 0).testBit j = true := by
      intro p hp j hj hne
      have hpl : p < reads.length := by
        have := (List.getElem?_eq_some_iff.1 hp).1
        omega
      have := hK.2 p hpl
      rw [hp] at this
      simp only [List.all_eq_true, List.mem_range, Bool.or_eq_true, beq_iff_eq] at this
      rcases this j hj with (h | h) | h
      · exact absurd h hne
      · exact .inl h
      · exact .inr h
    have noBig : kd ≠ .float → ¬ BigIn ks listed := by
      rintro hne ⟨p, hp, hl⟩
      by_cases hip : i = p
      · subst hip; rw [hun'] at hl; cases hl
      · rcases big_all p hp i him hip with h | h
        · rw [hki] at h; exact hne (Option.some.inj h)
        · have hpo : p < ops.size := by
            rcases Nat.lt_or_ge p ops.size with h' | h'
            · exact h'
            · rw [show listed.getD p false = false from by simp [Array.getElem?_eq_none (show listed.size ≤ p by rw [hi.lsize]; exact h')]] at hl; cases hl
          have := closed_anc hA hi.closed p _ (Array.getElem?_eq_getElem hpo) (hi.closed p _ (Array.getElem?_eq_getElem hpo) hl) i h
          rw [this] at hun'; cases hun'
    have bigSet : ∀ {k : Phase}, kd = k → k ≠ .big → (BigIn ks (listed.setIfInBounds i true) ↔ BigIn ks listed) := by
      intro k hk hne
      constructor
      · rintro ⟨p, hp, hl⟩
        by_cases hip : i = p
        · subst hip; rw [hki] at hp; exact absurd (hk.symm.trans (Option.some.inj hp)) hne
        · rw [getD_set_other _ hip] at hl; exact ⟨p, hp, hl⟩
      · rintro ⟨p, hp, hl⟩
        by_cases hip : i = p
        · subst hip; rw [hun'] at hl; cases hl
        · exact ⟨p, hp, by rw [getD_set_other _ hip]; exact hl⟩
    have notBig : ∀ j, listed.getD j false = true → ¬ BigIn ks listed → ks[j]? ≠ some .big := fun j hl hb h => hb ⟨j, h, hl⟩
    -- behind operation i
    have next : ∀ v w', (∀ j, j ≠ i → listed.getD j false = true → ∀ u, V j w u → V j w' u) → (¬ BigIn ks (listed.setIfInBounds i true) → R w0 w') → (BigIn ks (listed.setIfInBounds i true) → ∃ w1, R w0 w1 ∧ Rp (a.put o.dst v) w1 w') → V i w' v → wpAny P .any ops Q fuel (listed.setIfInBounds i true) (a.put o.dst v) w' := by
      intro v w' hww he hl hv
      refine ih _ _ _ (unlisted_set hun fuel hf) ⟨he, hl, ?_, ?_, by simp [hi.lsize], ?_, fun j hj => ?_, ?_⟩
      · cases hd : o.dst <;> simp [Act.put, hi.size]
      · cases hd : o.dst <;> simp [Act.put, hi.defers]
      · intro j oj hoj hl e he hb
        by_cases hji : i = j
        · subst hji
          rw [ho] at hoj
          obtain rfl := Option.some.inj hoj
          by_cases hei : i = e.on
          · rw [← hei]; exact getD_set_self (by rw [hi.lsize]; exact hisz) _
          · rw [getD_set_other _ hei]; exact hdeps e he hb
        · rw [getD_set_other _ hji] at hl
          by_cases hei : i = e.on
          · rw [← hei]; exact getD_set_self (by rw [hi.lsize]; exact hisz) _
          · rw [getD_set_other _ hei]; exact hi.closed j oj hoj hl e he hb
      · rw [getD_set_other _ (by omega)]; exact hi.tail j hj
      · intro t
        by_cases hd : o.dst = some t
        · rw [lastW_set ho hd (p := fun j => (listed.setIfInBounds i true).getD j false) (getD_set_self (by rw [hi.lsize]; exact hisz) _) (fun j oj hoj hdj hlt => by
            have := (pair i j o oj hlt ho hoj).resolve_right (fun h => h.1 t hd (by simp [names, hdj]))
            rw [getD_set_other _ (by omega)]
            exact hdesc j oj hoj this)]
          have htn : t < a.tmps.size := by rw [hi.size]; simpa [hd] using hdst
          simp only [hd, Act.put]
          simpa [htn] using hv
        · rw [lastW_congr (q := fun j => listed.getD j false) (fun j oj hoj hdj => by
            by_cases hji : i = j
            · subst hji; rw [ho] at hoj; obtain rfl := Option.some.inj hoj; exact absurd hdj hd
            · exact getD_set_other _ hji)]
          have h2 := hi.tmps t
          have same : (a.put o.dst v).tmps[t]?.getD undef = a.tmps[t]?.getD undef := by
            cases hdd : o.dst with
            | none => rfl
            | some d =>
              have hne : d ≠ t := fun e => hd (by rw [hdd, e])
              simp [Act.put, Array.getElem?_setIfInBounds_ne hne]
          rw [same]
          revert h2
          cases hlw : lastW ops (fun j => listed.getD j false) t with
          | none => exact id
          | some j =>
            have hlj := lastW_listed hlw
            refine hww j ?_ hlj _
            intro e
            subst e
            rw [hun'] at hlj
            cases hlj
    unfold wpOp
    simp only [ho]
    cases kd with
    | big =>
      obtain ⟨hgn, hgoal⟩ := hgoal
      have hnb := noBig (by simp)
      rw [if_pos (by simp [Region.wanted, hgn])]
      refine .inl (hgoal a w (hi.early hnb) hD _ fun v w' hrp hv => ?_)
      have hbig : BigIn ks (listed.setIfInBounds i true) := ⟨i, hki, getD_set_self (by rw [hi.lsize]; exact hisz) _⟩
      exact next v w' (fun j _ hl u hu => hst j (notBig j hl hnb) w w' u (.inr ⟨_, hrp⟩) hu) (fun h => absurd hbig h) (fun _ => ⟨w, hi.early hnb, hrp⟩) hv
    | plain =>
      have hnb := noBig (by simp)
      have hgoal := hgoal a w (hi.early hnb) hD
      have hs := bigSet rfl (by simp)
      have nx : ∀ v w', R w w' → V i w' v → wpAny P .any ops Q fuel (listed.setIfInBounds i true) (a.put o.dst v) w' := fun v w' hr hv =>
        next v w' (fun j _ hl u hu => hst j (notBig j hl hnb) w w' u (.inl hr) hu) (fun _ => htr _ _ _ (hi.early hnb) hr) (fun h => absurd (hs.1 h) hnb) hv
      cases hgg : o.guard with
      | none =>
        rw [hgg] at hg
        cases g with
        | some _ => simp at hg
        | none =>
          rw [if_pos (by simp [Region.wanted, hgg])]
          exact .inl (hgoal _ nx)
      | some kw =>
        obtain ⟨k, want⟩ := kw
        rw [hgg] at hg
        cases g with
        | none => simp at hg
        | some tw =>
          obtain ⟨t, want'⟩ := tw
          simp only [Bool.and_eq_true, beq_iff_eq] at hg
          obtain ⟨rfl, hk⟩ := hg
          have hw := wanted_iff (a := a) hgg hk
          by_cases hv : a.tmps[t]?.getD undef = .bool want
          · rw [if_pos (hw.2 hv)]
            exact .inl (hgoal.1 hv _ nx)
          · rw [if_neg (fun h => hv (hw.1 h))]
            exact nx undef w (hrf w) (hgoal.2 hv)
    | float =>
      have hgoal := hgoal a w hD
      have hs := bigSet rfl (by simp)
      have nx : ∀ v w', w' = w → V i w' v → wpAny P .any ops Q fuel (listed.setIfInBounds i true) (a.put o.dst v) w' := fun v w' hr hv => by
        subst hr
        exact next v w' (fun j _ _ u hu => hu) (fun h => hi.early (fun hb => h (hs.2 hb))) (fun h => (hi.late (hs.1 h)).imp fun w1 h1 => ⟨h1.1, hfl i o hki ho a w1 _ v h1.2⟩) hv
      cases hgg : o.guard with
      | none =>
        rw [hgg] at hg
        cases g with
        | some _ => simp at hg
        | none =>
          rw [if_pos (by simp [Region.wanted, hgg])]
          exact .inl (hgoal _ nx)
      | some kw =>
        obtain ⟨k, want⟩ := kw
        rw [hgg] at hg
        cases g with
        | none => simp at hg
        | some tw =>
          obtain ⟨t, want'⟩ := tw
          simp only [Bool.and_eq_true, beq_iff_eq] at hg
          obtain ⟨rfl, hk⟩ := hg
          have hw := wanted_iff (a := a) hgg hk
          by_cases hv : a.tmps[t]?.getD undef = .bool want
          · rw [if_pos (hw.2 hv)]
            exact .inl (hgoal.1 hv _ nx)
          · rw [if_neg (fun h => hv (hw.1 h))]
            exact nx undef w rfl (hgoal.2 hv)
end

section
variable {P : Program} {Q : Exit → Act → World → Prop} {V : Nat → World → Value → Prop} {a0 : Act} {w0 : World} {E : Act → World → Prop}
theorem wp_region_bigQ {id : Nat} {n : Nat} (ks : List Phase) (V : Nat → World → Value → Prop) (R : World → World → Prop) (Rp : Act → World → World → Prop) (reads : List (Reads × GuardT)) (fin : List (Tmp × Nat)) {l : List Oper} (tail : List Oper) (hn : a0.tmps.size = n) (hk : regionOk l.toArray reads fin n = true) (hd : l.drop reads.length = tail) (hm : P.follows .mixedOrders = true)
    (hrf : ∀ w, R w w) (htr : ∀ a b c, R a b → R b c → R a c) (hK : phaseOk (mkAnc l) ks reads.length = true) (hb : ks.contains .big = true)
    (hst : ∀ i, ks[i]? ≠ some .big → ∀ w w' v, R w w' ∨ (∃ a, Rp a w w') → V i w v → V i w' v)
    (hfl : ∀ (i : Nat) (o : Oper), ks[i]? = some .float → l[i]? = some o → ∀ a w1 w v, Rp a w1 w → Rp (a.put o.dst v) w1 w)
    (hops : PhHoldQ P Q R Rp V a0 w0.drew 0 l reads ks)
    (hend : EndHold (fun _ _ => True) V w0.drew (fun a w => (∃ w1, R w0.drew w1 ∧ Rp a w1 w) → wpList P l.toArray Q tail a w) (fun _ => True) fin a0) :
    (Code.region id l.toArray true).wp P Q a0 w0 := by
  subst hn
  subst hd
  simp only [regionOk, Bool.and_eq_true] at hk
  obtain ⟨⟨⟨⟨hA, hP⟩, hR⟩, hF⟩, hT⟩ := hk
  refine wp_region_any hm ?_
  refine wpAny_invQ (Rp := Rp) (ks := ks) (w0 := w0.drew) hA hP hR hT hrf htr hK hst (fun i o hk ho => hfl i o hk (by simpa using ho)) hops ?_ _ _ _ _ (Nat.le_trans List.count_le_length (by simp)) ⟨fun _ => hrf _, ?_, rfl, rfl, by simp, ?_, ?_, ?_⟩
  · intro listed a w hl hi
    simp only [finalOk, Bool.and_eq_true, List.all_eq_true, beq_iff_eq] at hF
    have hF2 : ∀ (j : Nat) (o : Oper) (t : Tmp), l.toArray[j]? = some o → j < reads.length → o.dst = some t → t ∈ fin.map (·.1) := by
      intro j o t ho hj hd
      have := hF.2 o (by
        have h1 : (l.take reads.length)[j]? = some o := by rw [List.getElem?_take_of_lt hj]; simpa using ho
        exact List.mem_of_getElem? h1)
      rw [hd] at this
      simpa using this
    have hlast : ∀ t, lastW l.toArray (fun j => listed.getD j false) t = lastW l.toArray (fun j => decide (j < reads.length)) t := fun t =>
      lastW_congr fun j o ho _ => hl j
    have e : fin.foldl (fun a' x => a'.put (some x.1) ((fun t => a.tmps[t]?.getD undef) x.1)) a0 = a := by
      have h := foldl_put (fun t => a.tmps[t]?.getD undef) fin a0
      have hd : (fin.foldl (fun a' x => a'.put (some x.1) ((fun t => a.tmps[t]?.getD undef) x.1)) a0).defers = a.defers := h.2.1.trans hi.defers.symm
      have ht : (fin.foldl (fun a' x => a'.put (some x.1) ((fun t => a.tmps[t]?.getD undef) x.1)) a0).tmps = a.tmps := by
        refine Array.ext_getElem? fun t => ?_
        rcases Nat.lt_or_ge t a0.tmps.size with hlt | hge
        · rw [h.2.2 t hlt]
          have hat : a.tmps[t]? = some (a.tmps[t]?.getD undef) := by
            have : t < a.tmps.size := by rw [hi.size]; exact hlt
            simp [this]
          by_cases hm : t ∈ fin.map (·.1)
          · rw [if_pos hm]; exact hat.symm
          · rw [if_neg hm]
            have h2 := hi.tmps t
            have hnone : lastW l.toArray (fun j => listed.getD j false) t = none := by
              unfold lastW
              rw [List.find?_eq_none]
              intro j _
              cases ho : l.toArray[j]? with
              | none => simp
              | some o =>
                by_cases hdo : o.dst = some t
                · rcases Nat.lt_or_ge j reads.length with hj | hj
                  · exact absurd (hF2 j o t ho hj hdo) hm
                  · simp only [hi.tail j hj]; simp
                · simp [hdo]
            rw [hnone] at h2
            rw [hat, h2]
            simp [hlt]
        · rw [Array.getElem?_eq_none (by rw [h.1]; exact hge), Array.getElem?_eq_none (by rw [hi.size]; exact hge)]
      generalize fin.foldl (fun a' x => a'.put (some x.1) ((fun t => a.tmps[t]?.getD undef) x.1)) a0 = z at hd ht
      cases z; cases a; simp_all
    have hbin : BigIn ks listed := by
      have hmem := List.contains_iff_mem.1 hb
      obtain ⟨p, hp⟩ := List.mem_iff_getElem?.1 hmem
      refine ⟨p, hp, ?_⟩
      rw [hl p]
      have h1 := (List.getElem?_eq_some_iff.1 hp).1
      have h2 := hK
      simp only [phaseOk, Bool.and_eq_true, beq_iff_eq] at h2
      simp; omega
    have := endHold_at (fun t => a.tmps[t]?.getD undef) w trivial fin _ a0 hend trivial (fun x hx => by
      have h1 := hF.1 x hx
      have h2 := hi.tmps x.1
      rw [hlast, h1] at h2
      exact h2)
    rw [e] at this
    exact this (hi.late hbin)
  · rintro ⟨p, _, hp⟩
    exfalso
    rcases Nat.lt_or_ge p l.length with h | h
    · simp [h] at hp
    · simp [h] at hp
  · intro j o ho hl
    exfalso
    have hj : j < l.length := by simpa using (Array.getElem?_eq_some_iff.1 ho).1
    simp [hj] at hl
  · intro j _
    rcases Nat.lt_or_ge j l.length with h | h
    · simp [h]
    · simp [h]
  · intro t
    have : lastW l.toArray (fun j => (Array.replicate l.toArray.size false).getD j false) t = none := by
      unfold lastW
      rw [List.find?_eq_none]
      intro j hj
      have hj : j < l.length := by simpa using hj
      simp [hj]
    rw [this]

end
/-- no floating one writes it -/
def noFloat (t : Tmp) (l : List Oper) (ks : List Phase) : Bool := (List.range l.length).all fun i => match ks[i]?, l[i]? with
  | some .float, some o => o.dst != some t
  | _, _ => true
theorem noFloat_put {t : Tmp} {l : List Oper} {ks : List Phase} (h : noFloat t l ks = true) (S : Value → World → World → Prop) (i : Nat) (o : Oper) (hk : ks[i]? = some .float) (ho : l[i]? = some o) (a : Act) (w1 w : World) (v : Value) (hs : S (a.tmps[t]?.getD undef) w1 w) : S ((a.put o.dst v).tmps[t]?.getD undef) w1 w := by
  have h1 := List.all_eq_true.1 h i (List.mem_range.2 (List.getElem?_eq_some_iff.1 ho).1)
  rw [hk, ho] at h1
  simp only [bne_iff_ne, ne_eq] at h1
  have : (a.put o.dst v).tmps[t]?.getD undef = a.tmps[t]?.getD undef := by
    cases hd : o.dst with
    | none => rfl
    | some d =>
      have hne : d ≠ t := fun e => h1 (by rw [hd, e])
      simp [Act.put, Array.getElem?_setIfInBounds_ne hne]
  rw [this]
  exact hs
theorem region_bigQ {P : Program} {Q : Exit → Act → World → Prop} {a0 : Act} {w0 : World} {id : Nat} {n : Nat} {l : List Oper} (t : Tmp) (S : Value → World → World → Prop) (ks : List Phase) (Vs : List (World → Value → Prop)) (reads : List (Reads × GuardT)) (fin : List (Tmp × Nat))
    (hn : a0.tmps.size = n) (hk : regionOk l.toArray reads fin n = true) (hK : phaseOk (mkAnc l) ks reads.length = true) (hb : ks.contains .big = true) (hm : P.follows .mixedOrders = true) (hnf : noFloat t l ks = true) (hv : ks.length = Vs.length)
    (hst : StableB Grew (fun w w' => ∃ a : Act, S (a.tmps[t]?.getD undef) w w') ks Vs)
    (hops : PhHoldQ P Q Grew (fun a => S (a.tmps[t]?.getD undef)) (at_ Vs) a0 w0.drew 0 l reads ks)
    (hend : EndHold (fun _ _ => True) (at_ Vs) w0.drew (Later (fun a w => (∃ w1, Grew w0.drew w1 ∧ S (a.tmps[t]?.getD undef) w1 w) → wpList P l.toArray Q (dropN reads l) a w)) (fun _ => True) fin a0) :
    (Code.region id l.toArray true).wp P Q a0 w0 :=
  wp_region_bigQ ks (at_ Vs) Grew (fun a => S (a.tmps[t]?.getD undef)) reads fin _ hn hk (dropN_eq reads l) hm Grew.refl (fun _ _ _ => Grew.trans) hK hb (stableB_at ks Vs hv hst) (fun i o hk ho a w1 w v => noFloat_put hnf S i o hk ho a w1 w v) hops (endHold_later _ _ _ hend)
end Go.Proofs.YtphkohdfdkmpcaaR
