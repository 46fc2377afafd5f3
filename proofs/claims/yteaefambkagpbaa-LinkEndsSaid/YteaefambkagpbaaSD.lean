/- Texts of this seat laid together: F15, F19, CarT, CarL, CarE, Open, OpenW, OpenS. -/
import Derived.Test.YteaefambkagpbaaSA
import Derived.Test.YteaefambkagpbaaSB
import Derived.Test.YteaefambkagpbaaSC
import Derived.Test.YteaefambkagpbaaVArr
import Derived.SizedLaws
import Derived.ChangeSlices
import Derived.WideKeyArr2
import Derived.WalkKit
import Derived.ProofKit
import Derived.OpenShut

-- F15
namespace Go.Proofs.Yteaefambkagpbaa.F
open Go.RowKit Go.Proofs.YteaefambkagpbaaW.PrintWords Go.Proofs.YteaefambkagpbaaW.PrintLast Go.Proofs.YteaefambkagpbaaW.PrintMore
attribute [local go_sem] max2_int min2_int max_two min_two max_three min_three max_four min_four   -- for this text's walks alone
set_option linter.unusedVariables false
set_option linter.unusedSimpArgs false

/-! ### strongroomlaw26_texts: function 15 -/
def strongroomlaw26_texts.l0 : Nat → List Int → List ByteArray → Int → Option (List ByteArray)
  | 0, _, _, _ => none
  | k + 1, x0, x3, x4 => if x4 < (x0.length : Int) then (if x4 < 12 then (if 0 ≤ x4 then ((strongroomlaw26_message.f k 0 (rd x0 x4) 0 0 ((wrap64 (x4 + 1)) % 256) false 0 false (⟨#[]⟩ : ByteArray) 0).bind fun t204 => (if x3.length < 8796093022208 then (strongroomlaw26_texts.l0 k x0 (x3 ++ [t204]) (wrap64 (x4 + 1))) else (none))) else (none)) else (some x3)) else (some x3)
def strongroomlaw26_texts.f (k : Nat) (l0 : List Int) : Option (List ByteArray) := strongroomlaw26_texts.l0 k l0 ([] : List ByteArray) 0
set_option maxHeartbeats 8000000 in
set_option maxRecDepth 100000 in
theorem strongroomlaw26_texts.calls (k : Nat) (A0 : Option Addr) (c0 : Nat) (l0 : List Int) (r : List ByteArray) (w : World) (hr0 : Kd.C (Kd.int .i64) w A0 l0.length l0) (hc0 : l0.length ≤ c0) (h : strongroomlaw26_texts.f k l0 = some r) :
    Calls Try.prog 15 #[.slice A0 l0.length c0] w fun e w' => ∃ v0_ : Value, e = .returned (v0_) ∧ Kd.R Kd.string 9 w' w.heap.size (fun _ => True) v0_ r ∧ Below w.heap.size w w' := by
  have hu59 := Try.underlying59
  have HR0 := Aside0.mk hr0
  have HC0 := Aside0.mk hc0
  clear hr0 hc0
  have HB := Aside0.mk (Below.refl w.heap.size w)
  have H : (strongroomlaw26_texts.l0 k l0 ([] : List ByteArray) 0) = some r := h
  clear h
  have H' := Aside0.mk H
  clear H
  go_enter Try.func15, Try.ntmps15
  go_wp2
  go_loopg [3, 4] k (fun kq v3 v4 w' => ∃ (x3_1 : List ByteArray) (x4_1 : Int), v4 = .int .i64 x4_1 ∧ Aside0 (strongroomlaw26_texts.l0 kq l0 x3_1 x4_1 = some r) ∧ Aside0 (kq ≤ k) ∧ Aside0 (Kd.R Kd.string 9 w' w.heap.size (fun _ => True) v3 x3_1) ∧ Aside0 (Below w.heap.size w w'))
  case atStart => exact ⟨(([] : List ByteArray)), (0), (by first | rfl | (simp; done) | (simp [*]; done)), H', ⟨Nat.le_refl _⟩, ⟨by first | exact Kd.R_nil _ _ _ _ _ | exact Kd.N_nil _ _ _ _ _ | exact Kd.V_nil _ _ _ _ _ | exact Kd.Q_nil _ _ _ _ _ | exact Kd.S_nil _ _ _ _ _⟩, ⟨by repeat (first | (with_reducible first | exact HB.out | apply below_alloc | apply pw_below_drewN | apply below_drew1) | exact HB.out)⟩⟩
  case round =>
    clear H'
    try clear c1
    obtain ⟨x3_1, x4_1, rfl, HA, HK1, HO_3, HB⟩ := hrel
    cases gk with
    | zero => exact absurd HA.out (by simp [strongroomlaw26_texts.l0])
    | succ k1 =>
      have H := HA.out
      clear HA
      simp only [strongroomlaw26_texts.l0] at H
      by_cases c2 : x4_1 < (l0.length : Int)
      · rw [if_pos c2] at H
        have c2b0 : decide (x4_1 < (l0.length : Int)) = true := decide_eq_true c2
        clear c2
        by_cases c3 : x4_1 < 12
        · rw [if_pos c3] at H
          have c3b0 : decide (x4_1 < 12) = true := decide_eq_true c3
          clear c3
          by_cases c4 : 0 ≤ x4_1
          · rw [if_pos c4] at H
            have c4b0 : decide (0 ≤ x4_1) = true := decide_eq_true c4
            clear c4
            replace H := Option.bind_eq_some_iff.mp H
            obtain ⟨t204, A50, H⟩ := H
            replace H : (if x3_1.length < 8796093022208 then (strongroomlaw26_texts.l0 k1 l0 (x3_1 ++ [t204]) (wrap64 (x4_1 + 1))) else (none)) = some r := H
            have A5 := Aside0.mk A50
            clear A50
            by_cases c6 : x3_1.length < 8796093022208
            · rw [if_pos c6] at H
              have LMc6 := Aside0.mk c6
              clear c6
              obtain ⟨y205, hy205⟩ : ∃ y_ : List ByteArray, y_ = (x3_1 ++ [t204]) := ⟨_, rfl⟩
              replace H : (strongroomlaw26_texts.l0 k1 l0 y205 (wrap64 (x4_1 + 1))) = some r := by first | (rw [hy205]; with_reducible exact H) | (have H2_ := (Option.bind_some _ _).symm.trans H; rw [hy205]; with_reducible exact H2_) | (have H2_ := (Option.bind_some _ _).symm.trans H; with_reducible exact H2_) | with_reducible exact H | (rw [hy205]; exact H) | exact H
              have Ny205 := Aside0.mk hy205
              clear hy205
              have H' := Aside0.mk H
              clear H
              have p203 : 0 ≤ (x4_1 : Int) := of_decide_eq_true (by first | (with_reducible assumption) | assumption)
              have q203 : x4_1 < (l0.length : Int) := of_decide_eq_true (by first | (with_reducible assumption) | assumption)
              obtain ⟨ad203, e203, hx203_0⟩ := Kd.at_int HR0.out x4_1 p203 q203
              cases e203
              replace hx203_0 := (HB.out.cell (World.block_lt_of_cell? w _ hx203_0)).trans hx203_0
              replace p203 := eq_true p203
              replace q203 := eq_true q203
              go_wp2_with (first | ((with_reducible refine gate_callee (f := 29) rfl ?_); refine goesL_ (some 24) rfl rfl Try.func29 (by kernel_rfl) rfl #[.agg #[.int .i64 0, .int .i64 (rd l0 x4_1), .int .i64 0, .int .i64 0, .int .u8 ((wrap64 (x4_1 + 1)) % 256), .bool false, .int .i64 0, .bool false, .string (⟨#[]⟩ : ByteArray), .int .i64 0]] rfl (by (try simp only [List.map_toArray, List.map_cons, List.map_nil]); first | done | rfl | (simp only [List.length_drop, List.length_take]; rfl)) ?_; (with_reducible refine (strongroomlaw26_message.calls k1 0 (rd l0 x4_1) 0 0 ((wrap64 (x4_1 + 1)) % 256) false 0 false (⟨#[]⟩ : ByteArray) 0 t204 _ A5.out).mono ?_); rintro e w7 ⟨rfl, hb⟩; refine ⟨_, rfl, ?_⟩; have n0_ := Aside0.mk (Kd.R_below (by (with_reducible repeat (first | apply Kd.R_alloc | apply Kd.R_drewN | apply Kd.R_drew)); exact HO_3.out) hb); have n1_ := Aside0.mk (below_step (by repeat (first | (with_reducible first | exact HB.out | apply below_alloc | apply pw_below_drewN | apply below_drew1) | exact HB.out)) hb); clear HO_3; clear HB; have HO_3 := n0_; have HB := n1_; clear n0_ n1_; (try clear hb); (try clear hb2); (try clear hk); (try clear hi)) | ((with_reducible refine gate_builtin (b := .append) (xs := #[.tmp 15, .tmp 25]) rfl ?_); at_builtin; refine Kd.R_append Kd.string (w0 := w) w.heap.size rfl (.tmp 15) (.tmp 25) 40 9 (.string ⟨#[]⟩) 16 rfl Try.underlying40 info9 rfl (by decide) (by omega) u3 x3_1 t204 [.string t204] (fun _ => True) (fun _ => False) rfl rfl ?aP (fun _ hk => hk.elim) ?aF ?aO ?aB ?aS ?aL ?_; (case aP => exact rfl); (case aB => exact (by repeat (first | (with_reducible first | exact HB.out | apply below_alloc | apply pw_below_drewN | apply below_drew1) | exact HB.out))); (case aF => exact (fun _ _ => trivial)); (case aO => exact (by (with_reducible repeat (first | apply Kd.R_alloc | apply Kd.R_drewN | apply Kd.R_drew)); exact HO_3.out)); (case aS => exact (below_size (by repeat (first | (with_reducible first | exact HB.out | apply below_alloc | apply pw_below_drewN | apply below_drew1) | exact HB.out)))); (case aL => have := LMc6.out; omega); intro v206 w8 ho hb hg hat; rw [← Ny205.out] at ho; have n0_ := Aside0.mk (hb); have n1_ := Aside0.mk (ho); clear HB; clear HO_3; have HB := n0_; have HO207 := n1_; clear n0_ n1_; clear ho hb hg hat))
              go_roundg k1
              case measure => have := HK1.out; omega
              case rel => exact ⟨(y205), (wrap64 (x4_1 + 1)), (by first | rfl | (simp; done) | (simp [*]; done)), H', ⟨by have := HK1.out; omega⟩, ⟨by (with_reducible repeat (first | apply Kd.R_alloc | apply Kd.R_drewN | apply Kd.R_drew)); exact HO207.out⟩, ⟨by repeat (first | (with_reducible first | exact HB.out | apply below_alloc | apply pw_below_drewN | apply below_drew1) | exact HB.out)⟩⟩
            · rw [if_neg c6] at H
              exact absurd H (by simp)
          · rw [if_neg c4] at H
            exact absurd H (by simp)
        · rw [if_neg c3] at H
          have c3b0 : decide (x4_1 < 12) = false := decide_eq_false c3
          clear c3
          obtain rfl := Option.some.inj H
          go_wp2
          go_ret
          exact ⟨_, by first | rfl | (simp [errW_none, errW_some] <;> rfl) | (simp [*, errW_none, errW_some] <;> rfl), by (with_reducible repeat (first | apply Kd.R_alloc | apply Kd.R_drewN | apply Kd.R_drew)); exact HO_3.out, by repeat (first | (with_reducible first | exact HB.out | apply below_alloc | apply pw_below_drewN | apply below_drew1) | exact HB.out)⟩
      · rw [if_neg c2] at H
        have c2b0 : decide (x4_1 < (l0.length : Int)) = false := decide_eq_false c2
        clear c2
        obtain rfl := Option.some.inj H
        go_wp2
        go_ret
        exact ⟨_, by first | rfl | (simp [errW_none, errW_some] <;> rfl) | (simp [*, errW_none, errW_some] <;> rfl), by (with_reducible repeat (first | apply Kd.R_alloc | apply Kd.R_drewN | apply Kd.R_drew)); exact HO_3.out, by repeat (first | (with_reducible first | exact HB.out | apply below_alloc | apply pw_below_drewN | apply below_drew1) | exact HB.out)⟩

-- NOT PRINTED: function 21 (link_Receiver_Next)

end Go.Proofs.Yteaefambkagpbaa.F

-- F19
namespace Go.Proofs.Yteaefambkagpbaa.F
open Go.RowKit Go.Proofs.YteaefambkagpbaaW.PrintWords Go.Proofs.YteaefambkagpbaaW.PrintLast Go.Proofs.YteaefambkagpbaaW.PrintMore
attribute [local go_sem] max2_int min2_int max_two min_two max_three min_three max_four min_four   -- for this text's walks alone
set_option linter.unusedVariables false
set_option linter.unusedSimpArgs false

/-! ### strongroomref05_Same: function 19 -/
def strongroomref05_Same.l0 : Nat → List ByteArray → List ByteArray → Int → Option (Bool)
  | 0, _, _, _ => none
  | k + 1, x0, x1, x5 => if x5 < (x0.length : Int) then (if 0 ≤ x5 then (if x5 < (x1.length : Int) then (if (rdOf ByteArray.empty x0 x5).toList = (rdOf ByteArray.empty x1 x5).toList then (strongroomref05_Same.l0 k x0 x1 (wrap64 (x5 + 1))) else (some false)) else (none)) else (none)) else (some true)
def strongroomref05_Same.f (k : Nat) (l0 : List ByteArray) (l1 : List ByteArray) : Option (Bool) := if (l0.length : Int) = (l1.length : Int) then (strongroomref05_Same.l0 k l0 l1 0) else (some false)
set_option maxHeartbeats 8000000 in
set_option maxRecDepth 100000 in
theorem strongroomref05_Same.calls (k : Nat) (A0 : Option Addr) (c0 : Nat) (l0 : List ByteArray) (A1 : Option Addr) (c1 : Nat) (l1 : List ByteArray) (r : Bool) (w : World) (hr0 : Kd.C Kd.string w A0 l0.length l0) (hc0 : l0.length ≤ c0) (hr1 : Kd.C Kd.string w A1 l1.length l1) (hc1 : l1.length ≤ c1) (h : strongroomref05_Same.f k l0 l1 = some r) :
    Calls Try.prog 19 #[.slice A0 l0.length c0, .slice A1 l1.length c1] w fun e w' => e = .returned (.bool r) ∧ Drawn0 w w' := by
  have HR0 := Aside0.mk hr0
  have HC0 := Aside0.mk hc0
  clear hr0 hc0
  have HR1 := Aside0.mk hr1
  have HC1 := Aside0.mk hc1
  clear hr1 hc1
  have H : (if (l0.length : Int) = (l1.length : Int) then (strongroomref05_Same.l0 k l0 l1 0) else (some false)) = some r := h
  clear h
  by_cases c3 : (l0.length : Int) = (l1.length : Int)
  · rw [if_pos c3] at H
    have c3b0 : ((l0.length : Int) == (l1.length : Int)) = true := beq_iff_eq.mpr c3
    have c3b1 : ((l0.length : Int) != (l1.length : Int)) = false := bne_eq_false_iff_eq.mpr c3
    have c3b2 : (l0.length == l1.length) = true := by first | simpa using c3 | (simp at c3 ⊢; omega)
    clear c3
    have H' := Aside0.mk H
    clear H
    go_enter Try.func19, Try.ntmps19
    go_wp2
    repeat (go_quiet (fail); try go_wp2)
    go_loopg [5] k (fun kq v5 w' => ∃ (x5_1 : Int), v5 = .int .i64 x5_1 ∧ Aside0 (strongroomref05_Same.l0 kq l0 l1 x5_1 = some r) ∧ Aside0 (kq ≤ k) ∧ Drawn0 w w')
    case atStart => exact ⟨(0), (by first | rfl | (simp; done) | (simp [*]; done)), H', ⟨Nat.le_refl _⟩, by repeat (first | exact Drawn0.refl _ | apply Drawn0.step)⟩
    case round =>
      clear H'
      try clear c1
      try clear p2
      try clear c3
      try clear c3b0
      try clear c3b1
      try clear c3b2
      obtain ⟨x5_1, rfl, HA, HK1, ⟨m1, rfl⟩⟩ := hrel
      cases gk with
      | zero => exact absurd HA.out (by simp [strongroomref05_Same.l0])
      | succ k1 =>
        have H := HA.out
        clear HA
        simp only [strongroomref05_Same.l0] at H
        by_cases c4 : x5_1 < (l0.length : Int)
        · rw [if_pos c4] at H
          have c4b0 : decide (x5_1 < (l0.length : Int)) = true := decide_eq_true c4
          clear c4
          by_cases c5 : 0 ≤ x5_1
          · rw [if_pos c5] at H
            have c5b0 : decide (0 ≤ x5_1) = true := decide_eq_true c5
            clear c5
            by_cases c6 : x5_1 < (l1.length : Int)
            · rw [if_pos c6] at H
              have c6b0 : decide (x5_1 < (l1.length : Int)) = true := decide_eq_true c6
              clear c6
              by_cases c7 : (rdOf ByteArray.empty l0 x5_1).toList = (rdOf ByteArray.empty l1 x5_1).toList
              · rw [if_pos c7] at H
                have c7b0 : ((rdOf ByteArray.empty l0 x5_1).toList == (rdOf ByteArray.empty l1 x5_1).toList) = true := beq_iff_eq.mpr c7
                have c7b1 : ((rdOf ByteArray.empty l0 x5_1).toList != (rdOf ByteArray.empty l1 x5_1).toList) = false := bne_eq_false_iff_eq.mpr c7
                clear c7
                have H' := Aside0.mk H
                clear H
                have p212 : 0 ≤ (x5_1 : Int) := of_decide_eq_true (by first | (with_reducible assumption) | assumption)
                have q212 : x5_1 < (l0.length : Int) := of_decide_eq_true (by first | (with_reducible assumption) | assumption)
                obtain ⟨ad212, e212, hx212_0⟩ := Kd.at_string HR0.out x5_1 p212 q212
                cases e212
                replace p212 := eq_true p212
                replace q212 := eq_true q212
                have p213 : 0 ≤ (x5_1 : Int) := of_decide_eq_true (by first | (with_reducible assumption) | assumption)
                have q213 : x5_1 < (l1.length : Int) := of_decide_eq_true (by first | (with_reducible assumption) | assumption)
                obtain ⟨ad213, e213, hx213_0⟩ := Kd.at_string HR1.out x5_1 p213 q213
                cases e213
                replace p213 := eq_true p213
                replace q213 := eq_true q213
                go_wp2
                repeat (go_quiet (fail); try go_wp2)
                go_roundg k1
                case measure => have := HK1.out; omega
                case rel => exact ⟨(wrap64 (x5_1 + 1)), (by first | rfl | (simp; done) | (simp [*]; done)), H', ⟨by have := HK1.out; omega⟩, by repeat (first | exact Drawn0.refl _ | apply Drawn0.step)⟩
              · rw [if_neg c7] at H
                have c7b0 : ((rdOf ByteArray.empty l0 x5_1).toList == (rdOf ByteArray.empty l1 x5_1).toList) = false := beq_eq_false_iff_ne.mpr c7
                have c7b1 : ((rdOf ByteArray.empty l0 x5_1).toList != (rdOf ByteArray.empty l1 x5_1).toList) = true := bne_iff_ne.mpr c7
                obtain rfl := Option.some.inj H
                have p212 : 0 ≤ (x5_1 : Int) := of_decide_eq_true (by first | (with_reducible assumption) | assumption)
                have q212 : x5_1 < (l0.length : Int) := of_decide_eq_true (by first | (with_reducible assumption) | assumption)
                obtain ⟨ad212, e212, hx212_0⟩ := Kd.at_string HR0.out x5_1 p212 q212
                cases e212
                replace p212 := eq_true p212
                replace q212 := eq_true q212
                have p213 : 0 ≤ (x5_1 : Int) := of_decide_eq_true (by first | (with_reducible assumption) | assumption)
                have q213 : x5_1 < (l1.length : Int) := of_decide_eq_true (by first | (with_reducible assumption) | assumption)
                obtain ⟨ad213, e213, hx213_0⟩ := Kd.at_string HR1.out x5_1 p213 q213
                cases e213
                replace p213 := eq_true p213
                replace q213 := eq_true q213
                go_wp2
                repeat (go_quiet (fail); try go_wp2)
                go_ret
                exact ⟨by first | rfl | (simp; done) | (simp [*]; done), by repeat (first | exact Drawn0.refl _ | apply Drawn0.step)⟩
            · rw [if_neg c6] at H
              exact absurd H (by simp)
          · rw [if_neg c5] at H
            exact absurd H (by simp)
        · rw [if_neg c4] at H
          have c4b0 : decide (x5_1 < (l0.length : Int)) = false := decide_eq_false c4
          clear c4
          obtain rfl := Option.some.inj H
          go_wp2
          repeat (go_quiet (fail); try go_wp2)
          go_ret
          exact ⟨by first | rfl | (simp; done) | (simp [*]; done), by repeat (first | exact Drawn0.refl _ | apply Drawn0.step)⟩
  · rw [if_neg c3] at H
    have c3b0 : ((l0.length : Int) == (l1.length : Int)) = false := beq_eq_false_iff_ne.mpr c3
    have c3b1 : ((l0.length : Int) != (l1.length : Int)) = true := bne_iff_ne.mpr c3
    have c3b2 : (l0.length == l1.length) = false := by first | simpa using c3 | (simp at c3 ⊢; omega)
    obtain rfl := Option.some.inj H
    go_enter Try.func19, Try.ntmps19
    go_wp2
    repeat (go_quiet (fail); try go_wp2)
    go_ret
    exact ⟨by first | rfl | (simp; done) | (simp [*]; done), by repeat (first | exact Drawn0.refl _ | apply Drawn0.step)⟩

-- NOT PRINTED: function 4 (strongroomlaw26_LinkOrder)

-- NOT PRINTED: function 20 (link_Sender_Done)

-- NOT PRINTED: function 5 (strongroomlaw26_LinkEnds)

-- NOT PRINTED: function 28 (link_Receiver_Gap)

end Go.Proofs.Yteaefambkagpbaa.F

-- CarT
namespace Go.Proofs.Yteaefambkagpbaa.F
open Go Go.RowKit Go.Proofs.YteaefambkagpbaaW.PrintWords Go.Proofs.YteaefambkagpbaaW.PrintLast Go.Proofs.YteaefambkagpbaaW.PrintMore Go.Proofs.YteaefambkagpbaaM Go.Proofs.YteaefambkagpbaaR
set_option linter.unusedSimpArgs false
set_option linter.unusedVariables false
set_option maxRecDepth 100000
theorem C_takeS {α : Type} {K : Kd α} {w : World} {A : Option Addr} {n m : Nat} {l : List α} (h : Kd.C K w A n l) (hm : m ≤ n) : Kd.C K w A m (l.take m) := by
  obtain ⟨hl, hx, hc⟩ := h
  refine ⟨by rw [List.length_take, hl]; omega, by omega, fun hp => ?_⟩
  obtain ⟨ad, hA, hcell⟩ := hc (by omega)
  refine ⟨ad, hA, fun j p hj => hcell j p ?_⟩
  rw [List.getElem?_take] at hj
  split at hj
  · exact hj
  · cases hj
theorem msg_j0 (n : Nat) (hn : n ≤ 5000) (fl : Int) (k : Nat) (hk : 5001 ≤ k) (b : Bool) (z : Int) (hz : (if b = true then 0 else z) = (n : Int)) (y0 y1 y2 y3 y6 y9 : Int) (y5 y7 : Bool) (y8 : ByteArray) : strongroomlaw26_message.j0 (k + 2) z b y0 y1 y2 y3 fl y5 y6 y7 y8 y9 = some (strOfNums (List.replicate n fl)) := by
  have e : strongroomlaw26_message.j0 (k + 2) z b y0 y1 y2 y3 fl y5 y6 y7 y8 y9 = strongroomlaw26_message.j1 (k + 1) (n : Int) y0 y1 y2 y3 fl y5 y6 y7 y8 y9 := by
    rw [← hz]
    simp only [strongroomlaw26_message.j0]
    split <;> rfl
  rw [e]
  simp only [strongroomlaw26_message.j1]
  rw [if_pos (by omega), if_pos (by omega)]
  have := msg_l0 n hn fl y0 y1 y2 y3 y6 y9 y5 y7 y8 n 0 k (by omega) (by omega)
  simpa using this
theorem strs_size (l : List Int) : (strOfNums l).size = l.length := by simp [strOfNums, ByteArray.size]
theorem msg_any (size fl : Int) (k : Nat) (hk : 5001 ≤ k) : ∃ m, strongroomlaw26_message.f (k + 2) 0 size 0 0 fl false 0 false ⟨#[]⟩ 0 = some m ∧ m.size ≤ 5000 := by
  unfold strongroomlaw26_message.f
  by_cases h0 : size < 0
  · rw [if_pos h0]
    exact ⟨_, msg_j0 0 (by omega) fl k hk true size rfl _ _ _ _ _ _ _ _ _, by rw [strs_size]; simp⟩
  · rw [if_neg h0]
    by_cases h1 : size > 5000
    · rw [decide_eq_true h1]
      exact ⟨_, msg_j0 0 (by omega) fl k hk true size rfl _ _ _ _ _ _ _ _ _, by rw [strs_size]; simp⟩
    · rw [decide_eq_false h1]
      obtain ⟨n, hn⟩ : ∃ n : Nat, (n : Int) = size := ⟨size.toNat, by omega⟩
      exact ⟨_, msg_j0 n (by omega) fl k hk false size (by simp [hn]) _ _ _ _ _ _ _ _ _, by rw [strs_size]; simp; omega⟩
theorem texts_l0 (sizes : List Int) : ∀ (d i : Nat) (acc : List ByteArray), i + d = 12 → acc.length = i → (∀ m ∈ acc, m.size ≤ 5000) → ∃ L, strongroomlaw26_texts.l0 (5003 + d + 1) sizes acc (i : Int) = some L ∧ L.length ≤ 12 ∧ ∀ m ∈ L, m.size ≤ 5000 := by
  intro d
  induction d with
  | zero =>
    intro i acc hi ha hm
    rw [strongroomlaw26_texts.l0]
    by_cases h : (i : Int) < (sizes.length : Int)
    · rw [if_pos h, if_neg (by omega)]
      exact ⟨acc, rfl, by omega, hm⟩
    · rw [if_neg h]
      exact ⟨acc, rfl, by omega, hm⟩
  | succ d ih =>
    intro i acc hi ha hm
    rw [strongroomlaw26_texts.l0]
    by_cases h : (i : Int) < (sizes.length : Int)
    · rw [if_pos h, if_pos (by omega), if_pos (by omega)]
      obtain ⟨m, hm1, hm2⟩ := msg_any (rd sizes i) ((wrap64 ((i : Int) + 1)) % 256) (5001 + (d + 1)) (by omega)
      rw [show 5003 + (d + 1) = 5001 + (d + 1) + 2 from by omega, hm1, Option.bind_some, if_pos (by omega), w64 (by omega) (by omega)]
      obtain ⟨L, h1, h2⟩ := ih (i + 1) (acc ++ [m]) (by omega) (by simp [ha]) (fun x hx => by
        rcases List.mem_append.1 hx with hx | hx
        · exact hm x hx
        · rw [List.mem_singleton.1 hx]; exact hm2)
      refine ⟨L, ?_, h2⟩
      rw [← h1, show 5001 + (d + 1) + 2 = 5003 + d + 1 from by omega]
      rfl
    · rw [if_neg h]
      exact ⟨acc, rfl, by omega, hm⟩
theorem texts_f (sizes : List Int) : ∃ L, strongroomlaw26_texts.f 5016 sizes = some L ∧ L.length ≤ 12 ∧ ∀ m ∈ L, m.size ≤ 5000 :=
  texts_l0 sizes 12 0 [] (by omega) rfl (fun m hm => by simp at hm)
theorem same_l0 (l : List ByteArray) (hl : l.length ≤ 100000) : ∀ (d i : Nat), i + d = l.length → strongroomref05_Same.l0 (d + 1) l l (i : Int) = some true := by
  intro d
  induction d with
  | zero =>
    intro i hi
    rw [strongroomref05_Same.l0, if_neg (by omega)]
  | succ d ih =>
    intro i hi
    rw [strongroomref05_Same.l0, if_pos (by omega), if_pos (by omega), if_pos (by omega), if_pos rfl, w64 (by omega) (by omega)]
    exact ih (i + 1) (by omega)
theorem same_f (l : List ByteArray) (hl : l.length ≤ 100000) : strongroomref05_Same.f (l.length + 1) l l = some true := by
  unfold strongroomref05_Same.f
  rw [if_pos rfl]
  exact same_l0 l hl l.length 0 (by omega)
/-- those that are not too long -/
def shortM (l : List ByteArray) : List ByteArray := l.filter fun m => decide (m.size ≤ 4096)
theorem shortM_ok (l : List ByteArray) (h : l.length ≤ 12) : MsgsOk (shortM l) :=
  ⟨fun m hm => by simp only [shortM, List.mem_filter, decide_eq_true_eq] at hm; exact hm.2, Nat.le_trans (List.length_filter_le _ _) h⟩
theorem shortM_take (l : List ByteArray) (i : Nat) (x : ByteArray) (hx : l[i]? = some x) : shortM (l.take (i + 1)) = if x.size ≤ 4096 then shortM (l.take i) ++ [x] else shortM (l.take i) := by
  rw [List.take_add_one, hx]
  simp only [shortM, Option.toList_some, List.filter_append]
  split
  · rename_i h; simp [h]
  · rename_i h; simp [h]
end Go.Proofs.Yteaefambkagpbaa.F

-- CarL
namespace Go.Proofs.Yteaefambkagpbaa.F
open Go Go.RowKit Go.Proofs.YteaefambkagpbaaW.PrintWords Go.Proofs.YteaefambkagpbaaW.PrintLast Go.Proofs.YteaefambkagpbaaW.PrintMore Go.Proofs.YteaefambkagpbaaM Go.Proofs.YteaefambkagpbaaR
attribute [local go_sem] max2_int min2_int max_two min_two
set_option linter.unusedSimpArgs false
set_option linter.unusedVariables false
set_option maxRecDepth 100000
theorem snew2_c (w : World) : Calls Try.prog 17 #[] w (Tells w (fun w' v => ∃ g, v = .pointer (some ⟨g, 0, none⟩) ∧ SndM w.heap.size g (.slice none 0 0) [] 0 0 w')) := by
  go_enter Try.func17, Try.ntmps17
  go_wp2_with fail
  go_ret
  exact ⟨_, rfl, ⟨_, rfl, ⟨Blk.new w 77 [.slice none 0 0, .int .i64 0, .int .i64 0], rowO_nil _ _ _ _, Nat.le_refl _⟩⟩, Grew.alloc _ _⟩
theorem own_msgs {w : World} {base n : Nat} {v : Value} {l : List ByteArray} (h : w.ownsRow base 9 1 v n (strs l)) : ∃ A c, v = .slice A n c ∧ l.length = n ∧ n ≤ c ∧ Kd.C Kd.string w A n l := by
  have h1 : l.length = n := by have := h.1; simp [strs] at this; exact this
  rcases h.2 with ⟨rfl, hn⟩ | ⟨g, cap, cur, rfl, hb, hg, hnc, hcm, hcs, htake⟩
  · obtain rfl : l = [] := List.eq_nil_of_length_eq_zero (by omega)
    subst hn
    exact ⟨none, 0, rfl, rfl, Nat.le_refl _, Kd.C_of_reads (d := ByteArray.empty) (h1 := fun _ => rfl) (enc := Value.string) ⟨rfl, by simp, fun hp => by omega⟩⟩
  · refine ⟨_, cap, rfl, h1, hnc, Kd.C_of_reads (d := ByteArray.empty) (h1 := fun _ => rfl) (enc := Value.string) ⟨h1, by unfold maxLen at hcm; omega, fun hp => ⟨⟨g, 0, none⟩, rfl, fun j hj => ?_⟩⟩⟩
    have := h.cells (g := g) rfl j (.string (l.getD j ByteArray.empty)) (by
      rw [strs, List.getElem?_map, List.getElem?_eq_getElem (by omega), List.getD_eq_getElem?_getD, List.getElem?_eq_getElem (by omega)]
      rfl)
    exact this
/-- the last call of both laws -/
theorem new_carried_c (w w2 w3 : World) (g1 g m : Nat) (l : List ByteArray) (ways : List Way) (T : Nat) (Am : Option Addr) (cm : Nat) (Aw : Option Addr) (cw : Nat) (hg2 : Grew w w2) (hg3 : Grew w2 w3)
    (hS : SndM w.heap.size g1 (.slice none 0 0) [] 0 0 w2) (hR : RcvM w2.heap.size g m (.slice none 0 0) (.pointer none) (.slice none 0 0) 0 (fun _ => none) [] ⟨#[]⟩ 0 w3)
    (hM : Kd.C Kd.string w Am l.length l) (hcm : l.length ≤ cm) (hW : Kd.C k73 w Aw ways.length ways) (hcw : ways.length ≤ cw) (hms : MsgsOk l) (hwl : ways.length ≤ 100000) (hT : T ≤ 1000) :
    Calls Try.prog 16 #[.pointer (some ⟨g1, 0, none⟩), .pointer (some ⟨g, 0, none⟩), .slice Am l.length cm, .slice Aw ways.length cw, .int .i64 (T : Int)] w3 (fun e w' => CarriedD w3 w.heap.size g1 g m (runC l ways T) e w' ∧ Grew w w') := by
  have hh : ∀ wx, Upd (bl3 g1 g m) w3 wx → Grew w wx := fun wx hu => ((Upd.of_grew (S := bl3 g1 g m) (Grew.trans hg2 hg3)).trans hu).grew fun i hi e => by
    have h1 := hS.hg
    have h2 := hR.hg
    have h3 := hR.hm
    have h4 := hg2.size
    rcases e with e | e | e <;> omega
  refine (carried_c w3 w.heap.size g1 g m l ways T Am cm Aw cw (hS.grew hg3) ⟨hR.cells, hR.map, rowO_nil _ _ _ _, World.ownsRow_nil _ _ _ _, .inl rfl, fun _ => rfl, Nat.le_trans hg2.size hR.hg, Nat.le_trans hg2.size hR.hm⟩ (Nat.le_trans hg2.size hg3.size) (fun wx hu => Kd.C_below hM (hh wx hu)) hcm (fun wx hu => Kd.C_below hW (hh wx hu)) hcw hms hwl hT).mono ?_
  rintro e w' h
  refine ⟨h, ?_⟩
  obtain ⟨vs, vw, bp, vb, vp, vk, vt, -, hm⟩ := h
  exact hh w' hm.upd
/-- the same texts are told to be so -/
theorem same_c (w : World) (A : Option Addr) (c : Nat) (B : Option Addr) (d : Nat) (l : List ByteArray) (n : Nat) (hn : l.length = n) (h1 : Kd.C Kd.string w A n l) (hc : n ≤ c) (h2 : Kd.C Kd.string w B n l) (hd : n ≤ d) (hl : n ≤ 100000) :
    Calls Try.prog 19 #[.slice A n c, .slice B n d] w (Tells w (Is (.bool true))) := by
  subst hn
  refine (strongroomref05_Same.calls _ A c l B d l true w h1 hc h2 hd (same_f l hl)).mono ?_
  rintro e w' ⟨rfl, hb⟩
  obtain ⟨k, rfl⟩ := hb
  exact ⟨_, rfl, rfl, Grew.drewN _ _⟩
end Go.Proofs.Yteaefambkagpbaa.F

-- CarE
namespace Go.Proofs.Yteaefambkagpbaa.F
open Go Go.RowKit Go.Proofs.YteaefambkagpbaaW.PrintWords Go.Proofs.YteaefambkagpbaaW.PrintLast Go.Proofs.YteaefambkagpbaaW.PrintMore Go.Proofs.YteaefambkagpbaaM Go.Proofs.YteaefambkagpbaaR
set_option linter.unusedSimpArgs false
set_option linter.unusedVariables false
set_option maxRecDepth 100000
/-- what was sent late, came -/
def LateOk (F : Nat) (s : CSt) : Prop := ∀ j x, s.l[j]? = some x → x.f1 = true → 100 ≤ x.f2 → RecAt s.R ((F + j : Nat) : Int)
/-- what is left to do -/
def leftC (msgs : List ByteArray) (s : CSt) : Nat := 22 * (msgs.length - s.put) + s.l.length
/-! ### a part's way that is open -/
theorem sent_zero {msgs : List ByteArray} {F S : Nat} (ways : List Way) : ∀ (ps : List Pkt) (s : CSt) (G : Nat), Good msgs F G S s → (∀ p ∈ ps, ∃ i : Nat, i < S ∧ (allP msgs s.put)[i]? = some p) → ways.length ≤ s.w →
    ∃ G', G ≤ G' ∧ Good msgs F G' S (ps.foldl (partC ways) s) ∧ (∀ k, RecAt s.R k → RecAt (ps.foldl (partC ways) s).R k) ∧ ∀ p ∈ ps, RecAt (ps.foldl (partC ways) s).R p.f1
  | [], s, G, h, _, _ => ⟨G, Nat.le_refl _, h, fun _ h => h, fun p hp => by simp at hp⟩
  | p :: ps, s, G, h, hp, hw => by
    obtain ⟨G1, g1, h1, m1, r1⟩ := h.part ways (hp p (by simp))
    have hz : (wayAt ways s.w).f0 = 0 := by
      unfold wayAt
      rw [List.getD_eq_getElem?_getD, List.getElem?_eq_none hw]
      rfl
    obtain ⟨G2, g2, h2, m2, r2⟩ := sent_zero ways ps _ G1 h1 (fun q hq => hp q (by simp [hq])) (by simp [partC]; omega)
    refine ⟨G2, by omega, h2, fun k hk => m2 _ (m1 _ hk), fun q hq => ?_⟩
    rcases List.mem_cons.1 hq with rfl | hq
    · exact m2 _ (r1 hz)
    · exact r2 q hq
theorem way_zero (ways : List Way) (w : Nat) (h : ways.length ≤ w) : (wayAt ways w).f0 = 0 := by
  unfold wayAt
  rw [List.getD_eq_getElem?_getD, List.getElem?_eq_none h]
  rfl
/-- a round with open ways -/
theorem open_round {msgs : List ByteArray} (hm : MsgsOk msgs) {F G S : Nat} {s : CSt} (h : Good msgs F G S s) (ways : List Way) (t : Nat) (hw : ways.length ≤ s.w) (ht : 100 ≤ t) (hn : s.now ≤ t) (hL : LateOk F s) :
    ∃ F' S', Good msgs F' F' S' (roundC msgs ways t s) ∧ LateOk F' (roundC msgs ways t s) ∧ leftC msgs (roundC msgs ways t s) ≤ leftC msgs s ∧ (103 ≤ t → 0 < leftC msgs s → leftC msgs (roundC msgs ways t s) < leftC msgs s) := by
  obtain ⟨s1, hs1⟩ : ∃ s1, s1 = putC msgs s := ⟨_, rfl⟩
  have hG1 : Good msgs F G S s1 := by rw [hs1]; exact h.put_
  obtain ⟨ps1, ps2, ps3, ps4, ps5, ps6, ps7⟩ := putC_same msgs s
  rw [← hs1] at ps1 ps2 ps3 ps4 ps5 ps6 ps7
  -- what Put does to what is left, and to what was sent late
  have hleft1 : leftC msgs s1 ≤ leftC msgs s ∧ (0 < leftC msgs s → 0 < s1.l.length ∨ leftC msgs s1 < leftC msgs s) := by
    rw [hs1]
    unfold putC leftC
    cases hx : msgs[s.put]? with
    | none =>
      have hle : msgs.length ≤ s.put := by
        rcases Nat.lt_or_ge s.put msgs.length with h1 | h1
        · rw [List.getElem?_eq_getElem h1] at hx; cases hx
        · exact h1
      exact ⟨Nat.le_refl _, fun h0 => .inl (by simp only; omega)⟩
    | some m =>
      have hlt := (List.getElem?_eq_some_iff.1 hx).1
      have hcl := cutP_len m (hm.small m (List.mem_of_getElem? hx))
      simp only
      by_cases hc : s.l.length + (cutP m).length ≤ 64
      · rw [if_pos hc]
        simp only [List.length_append, fresh_len]
        exact ⟨by omega, fun _ => .inr (by omega)⟩
      · rw [if_neg hc]
        exact ⟨Nat.le_refl _, fun _ => .inl (by omega)⟩
  have hL1 : LateOk F s1 := by
    intro j x hx h1 h2
    rw [ps6]
    rw [hs1] at hx
    unfold putC at hx
    cases hq : msgs[s.put]? with
    | none => rw [hq] at hx; exact hL j x hx h1 h2
    | some m =>
      rw [hq] at hx
      simp only at hx
      by_cases hc : s.l.length + (cutP m).length ≤ 64
      · rw [if_pos hc] at hx
        simp only at hx
        by_cases hj : j < s.l.length
        · rw [List.getElem?_append_left hj] at hx
          exact hL j x hx h1 h2
        · rw [List.getElem?_append_right (by omega)] at hx
          rw [(fresh_at _ _ _ _ hx).1] at h1
          cases h1
      · rw [if_neg hc] at hx
        exact hL j x hx h1 h2
  obtain ⟨S', hSS, hS8, hG2, hout⟩ := hG1.due (t : Int)
  have hmax : max s1.now (t : Int) = t := by rw [ps4]; omega
  obtain ⟨s2, hs2⟩ : ∃ s2, s2 = dueC (t : Int) s1 := ⟨_, rfl⟩
  obtain ⟨out, hout2⟩ : ∃ out, out = outC (t : Int) s1 := ⟨_, rfl⟩
  rw [← hs2] at hG2
  rw [← hout2] at hout
  have hs2l : s2.l = dueT (t : Int) s1.l 8 := by rw [hs2]; unfold dueC; rw [hmax]
  have hs2R : s2.R = s1.R := by rw [hs2]; rfl
  have hs2p : s2.put = s1.put := by rw [hs2]; rfl
  have hs2w : s2.w = s.w := by rw [hs2, ← ps3]; rfl
  obtain ⟨G3, g3, hG3, hmono, hrec⟩ := sent_zero ways out s2 G hG2 (fun p hp => by rw [hs2p]; exact hout p hp) (by rw [hs2w]; exact hw)
  obtain ⟨b1, b2, b3, b4, b5, b6, b7, b8⟩ := sent_bound ways out s2
  obtain ⟨s3, hs3⟩ : ∃ s3, s3 = out.foldl (partC ways) s2 := ⟨_, rfl⟩
  rw [← hs3] at hG3 hmono hrec b1 b2 b3 b4 b5 b6 b7 b8
  -- what is due is out
  have houtmem : ∀ j x, j < 8 → s1.l[j]? = some x → skipX (t : Int) x = false → x.f0 ∈ out := by
    intro j x hj hx hsk
    rw [hout2]
    unfold outC dueO
    rw [hmax]
    rw [List.mem_map]
    exact ⟨x, List.mem_filter.2 ⟨List.mem_of_getElem? (by rw [List.getElem?_take_of_lt hj]; exact hx), by rw [hsk]; rfl⟩, rfl⟩
  have hnum : ∀ j x, s1.l[j]? = some x → x.f0.f1 = ((F + j : Nat) : Int) := fun j x hx => allP_num _ _ _ _ (hG1.at_ hx)
  have hlate3 : LateOk F s3 := by
    intro j y hy h1 h2
    rw [b6, hs2l, dueT_get] at hy
    cases hx : s1.l[j]? with
    | none => rw [hx] at hy; cases hy
    | some x =>
      rw [hx] at hy
      simp only [Option.map_some, Option.some.injEq] at hy
      by_cases hj : j < 8
      · rw [if_pos hj] at hy
        cases hsk : skipX (t : Int) x with
        | true =>
          have e : dueX (t : Int) x = x := by unfold dueX; rw [hsk, if_pos rfl]
          rw [e] at hy
          subst hy
          exact hmono _ (by rw [hs2R]; exact hL1 j x hx h1 h2)
        | false =>
          have := hrec _ (houtmem j x hj hx hsk)
          rw [hnum j x hx] at this
          exact this
      · rw [if_neg hj] at hy
        subst hy
        exact hmono _ (by rw [hs2R]; exact hL1 j x hx h1 h2)
  -- from round 103 on all of the first 8 are there
  have hall : 103 ≤ t → ∀ j, j < 8 → j < s1.l.length → RecAt s3.R ((F + j : Nat) : Int) := by
    intro h103 j hj hjl
    obtain ⟨x, hx⟩ : ∃ x, s1.l[j]? = some x := ⟨_, List.getElem?_eq_getElem hjl⟩
    cases hsk : skipX (t : Int) x with
    | false =>
      have := hrec _ (houtmem j x hj hx hsk)
      rw [hnum j x hx] at this
      exact this
    | true =>
      unfold skipX at hsk
      simp only [Bool.or_eq_true, Bool.and_eq_true, decide_eq_true_eq] at hsk
      refine hmono _ ?_
      rw [hs2R]
      rcases hsk with hc | ⟨hc, hd⟩
      · exact hG1.came j x hx hc
      · exact hL1 j x hx hc (by omega)
  obtain ⟨F', f1, hG4, hF'⟩ := hG3.tell.back ways
  have hz : (wayAt ways (tellC s3).w).f0 = 0 := way_zero ways _ (by show ways.length ≤ s3.w; rw [b2, hs2w]; omega)
  have hFG := hF' hz
  subst hFG
  have hround : roundC msgs ways t s = backC ways (tellC s3) := by
    unfold roundC sentC
    rw [hs3, hs2, hout2, hs1]
  rw [hround]
  have hp4 : (backC ways (tellC s3)).put = s1.put := by show s3.put = s1.put; rw [b5, hs2p]
  have hR4 : (backC ways (tellC s3)).R = (tellC s3).R := rfl
  have hl3 : s3.l.length = s1.l.length := by rw [b6, hs2l, dueT_len]
  -- the lengths
  have e1 := hG1.lenA
  have e2 := hG4.lenA
  rw [hp4] at e2
  have hfg := hG3.fg
  have hlen : (backC ways (tellC s3)).l.length + (F' - F) = s1.l.length := by omega
  refine ⟨F', S', hG4, ?_, ?_, ?_⟩
  · intro j y hy h1 h2
    have hb : (backC ways (tellC s3)).l = (giveS (pickB (wayAt ways (tellC s3).w) ((tellC s3).backs ++ [rcpC (tellC s3).R]) (rcpC (tellC s3).R)) (tellC s3).l (tellC s3).f).1 := rfl
    rw [hb] at hy
    unfold pickB at hy
    rw [if_neg (fun e => by have := e.1; omega), if_neg (by omega)] at hy
    simp only [giveS] at hy
    have hq : (rcpC (tellC s3).R).f1 = s3.R.gap := rfl
    have hgap := hG3.R.gap
    have hf3 := hG3.f
    have ht3 := hG3.told
    have hgs := hG3.R.gs
    unfold takeS at hy
    rw [hq, show (tellC s3).f = s3.f from rfl, show (tellC s3).l = s3.l from rfl] at hy
    rw [if_neg (by omega)] at hy
    obtain ⟨x, g1, g2, g3', g4, g5⟩ := markN_get _ _ _ _ _ _ _ hy
    rw [List.getElem?_drop] at g1
    have := hlate3 _ x g1 (by rw [← g3']; exact h1) (by rw [← g4]; exact h2)
    rw [hR4]
    have e9 : F + ((s3.R.gap - s3.f).toNat + j) = F' + j := by omega
    rw [e9] at this
    exact this
  · have := hleft1.1
    unfold leftC at this ⊢
    rw [hp4]
    omega
  · intro h103 h0
    rcases hleft1.2 h0 with hl | hl
    · have hrec0 := hall h103 0 (by decide) hl
      have hadv : F < F' := by
        have hgap := hG3.R.gap
        rcases Nat.lt_or_ge F F' with h | h
        · exact h
        · exfalso
          have he : s3.R.gap = ((F + 0 : Nat) : Int) := by omega
          rcases hrec0 with hr | hr
          · omega
          · rw [← he, hG3.gap0] at hr
            cases hr
      have := hleft1.1
      unfold leftC at this ⊢
      rw [hp4]
      omega
    · unfold leftC at hl ⊢
      rw [hp4]
      omega
theorem run_now (msgs : List ByteArray) (ways : List Way) (t : Nat) : (runC msgs ways (t + 1)).now ≤ t := by
  have h := (run_bound msgs ways t).2.2.2.2.2
  obtain ⟨p1, p2, p3, p4, -, -, -⟩ := putC_same msgs (runC msgs ways t)
  obtain ⟨q1, q2, q3, q4, -, -, -, -⟩ := sent_bound ways (outC t (putC msgs (runC msgs ways t))) (dueC t (putC msgs (runC msgs ways t)))
  show (sentC ways t (putC msgs (runC msgs ways t))).now ≤ t
  unfold sentC
  rw [q4]
  show max (putC msgs (runC msgs ways t)).now (t : Int) ≤ t
  rw [p4]
  omega
/-- from round 100 on -/
theorem run_late {msgs : List ByteArray} (hm : MsgsOk msgs) (ways : List Way) (hw : ways.length ≤ 100) : ∀ k : Nat, ∃ F G S, Good msgs F G S (runC msgs ways (100 + k)) ∧ LateOk F (runC msgs ways (100 + k)) ∧ (0 < k → F = G)
  | 0 => by
    obtain ⟨F, G, S, h⟩ := Good.run msgs ways 100
    refine ⟨F, G, S, h, fun j x hx h1 h2 => ?_, fun h => by omega⟩
    exfalso
    have h3 := (h.times x (List.mem_of_getElem? hx)).2
    have h4 := run_now msgs ways 99
    have h5 : (runC msgs ways 100).now ≤ ((99 : Nat) : Int) := h4
    omega
  | k + 1 => by
    obtain ⟨F, G, S, h, hL, -⟩ := run_late hm ways hw k
    have hb := run_bound msgs ways (100 + k)
    obtain ⟨F', S', h1, h2, -, -⟩ := open_round hm h ways (100 + k) (by omega) (by omega) hb.2.2.2.2.2 hL
    exact ⟨F', F', S', h1, h2, fun _ => rfl⟩
theorem run_left {msgs : List ByteArray} (hm : MsgsOk msgs) (ways : List Way) (hw : ways.length ≤ 100) : ∀ k : Nat, leftC msgs (runC msgs ways (103 + k)) ≤ 328 - k
  | 0 => by
    obtain ⟨F, G, S, h⟩ := Good.run msgs ways 103
    have h1 := h.len
    have h2 := hm.few
    unfold leftC
    show 22 * (msgs.length - (runC msgs ways 103).put) + (runC msgs ways 103).l.length ≤ 328
    omega
  | k + 1 => by
    have ih := run_left hm ways hw k
    obtain ⟨F, G, S, h, hL, -⟩ := run_late hm ways hw (3 + k)
    have e : 100 + (3 + k) = 103 + k := by omega
    rw [e] at h hL
    have hb := run_bound msgs ways (103 + k)
    obtain ⟨F', S', -, -, h3, h4⟩ := open_round hm h ways (103 + k) (by omega) (by omega) hb.2.2.2.2.2 hL
    have e2 : runC msgs ways (103 + (k + 1)) = roundC msgs ways (103 + k) (runC msgs ways (103 + k)) := rfl
    rw [e2]
    rcases Nat.eq_zero_or_pos (leftC msgs (runC msgs ways (103 + k))) with h0 | h0
    · omega
    · have := h4 (by omega) h0
      omega
theorem run_ends {msgs : List ByteArray} (hm : MsgsOk msgs) (ways : List Way) (hw : ways.length ≤ 100) : (runC msgs ways 900).told = msgs ∧ (runC msgs ways 900).put = msgs.length ∧ (runC msgs ways 900).l = [] := by
  have hl := run_left hm ways hw 797
  obtain ⟨F, G, S, h, -, hFG⟩ := run_late hm ways hw 800
  have hFG := hFG (by decide)
  subst hFG
  rw [show 100 + 800 = 900 from rfl] at h
  rw [show 103 + 797 = 900 from rfl] at hl
  have hp := h.put
  unfold leftC at hl
  have h1 : (runC msgs ways 900).put = msgs.length := by omega
  have h2 : (runC msgs ways 900).l = [] := List.eq_nil_of_length_eq_zero (by omega)
  refine ⟨?_, h1, h2⟩
  have hA := h.lenA
  rw [h2, List.length_nil, Nat.add_zero] at hA
  have hf := h.R.fold
  rw [List.take_of_length_le (by omega), run_whole, List.append_nil] at hf
  unfold allP at hf
  rw [h1, List.take_of_length_le (Nat.le_refl _), fold_num, fold_all msgs [] hm.small] at hf
  simp only [List.nil_append, Prod.mk.injEq] at hf
  exact hf.1.symm
end Go.Proofs.Yteaefambkagpbaa.F

-- Open
namespace Go.Proofs.YteaefambkagpbaaO
set_option linter.unusedSimpArgs false
open Go Go.RowKit Go.ChangeShapes Go.WideShapes Go.ChangeAt Go.Proofs.YteaefambkagpbaaW.PrintWords
/-- cells of type t that can be read as data are some x of kind d -/
def Opens {α : Type} (P : Program) (t : TypeId) (d : Kd α) (ok : α → Prop) : Prop :=
  ∀ (H : Type) (enc : TypeId × Value → H) (W : World) (sp : Nat → Bool) (held : Bool) (fuel : Nat) (cs : List Value) (y : DataW H × List MemPlace), DataW.trod enc P W 0 sp held fuel t cs = some y → ∃ x, d.K W x cs ∧ ok x
section
variable {P : Program} {α : Type}
theorem opens_int {t : TypeId} {k : IntKind} (hu : P.underlying t = some (.int k)) : Opens P t (Kd.int k) (fun x => (Lit.int k x).wf = true) := by
  intro H enc W sp held fuel cs y h
  cases fuel with
  | zero => simp [DataW.trod] at h
  | succ n =>
    have key : ∃ n', cs = [.int k n'] ∧ (Lit.int k n').wf = true := by
      simp only [DataW.trod, hu] at h
      split at h <;> simp_all
    obtain ⟨x, rfl, hx⟩ := key
    exact ⟨x, rfl, hx⟩
theorem mapM_get {β γ : Type} {f : β → Option γ} : ∀ {l : List β} {ys : List γ}, l.mapM f = some ys → ys.length = l.length ∧ ∀ (i : Nat) (x : β), l[i]? = some x → ∃ y, f x = some y
  | [], ys, h => by simp at h; subst h; simp
  | a :: l, ys, h => by
    simp only [List.mapM_cons] at h
    obtain ⟨b, hb, h⟩ := Option.bind_eq_some_iff.1 h
    obtain ⟨bs, hbs, h⟩ := Option.bind_eq_some_iff.1 h
    simp at h
    subst h
    have ih := mapM_get hbs
    refine ⟨by simp [ih.1], fun i x hx => ?_⟩
    cases i with
    | zero => simp at hx; subst hx; exact ⟨b, hb⟩
    | succ i => simp at hx; exact ih.2 i x hx
theorem choose_list {ok : α → Prop} {Q : Nat → α → Prop} : ∀ n : Nat, (∀ i, i < n → ∃ x, Q i x ∧ ok x) → ∃ xs : List α, xs.length = n ∧ (∀ (i : Nat) (x : α), xs[i]? = some x → Q i x) ∧ ∀ x ∈ xs, ok x
  | 0, _ => ⟨[], rfl, by simp, by simp⟩
  | n + 1, h => by
    obtain ⟨xs, h1, h2, h3⟩ := choose_list n (fun i hi => h i (by omega))
    obtain ⟨x, hx, hk⟩ := h n (by omega)
    refine ⟨xs ++ [x], by simp [h1], fun i y hy => ?_, fun y hy => ?_⟩
    · rcases Nat.lt_or_ge i n with hlt | hge
      · rw [List.getElem?_append_left (by omega)] at hy; exact h2 i y hy
      · rw [List.getElem?_append_right (by omega)] at hy
        have : i = n := by
          rcases Nat.lt_or_ge n i with h' | h'
          · rw [List.getElem?_eq_none (by simp; omega)] at hy; cases hy
          · omega
        subst this
        simp [h1] at hy
        subst hy; exact hx
    · rcases List.mem_append.1 hy with hy | hy
      · exact h3 y hy
      · simp at hy; subst hy; exact hk
theorem cells_get {W : World} {a : Addr} {n : Nat} {cs : List Value} (h : W.cells? 0 a n = some cs) : cs.length = n ∧ ∀ (i : Nat) (u : Value), cs[i]? = some u → W.cell? (a.add i) = some u := by
  unfold World.cells? at h
  rw [if_pos (Nat.zero_le _)] at h
  have h1 := mapM_get h
  refine ⟨by simpa using h1.1, fun i u hu => ?_⟩
  have hi : i < n := by
    have := (List.getElem?_eq_some_iff.1 hu).1
    rw [h1.1] at this; simpa using this
  obtain ⟨y, hy⟩ := h1.2 i i (by simp [hi])
  have key : ∀ (l : List Nat) (ys : List Value), l.mapM (fun i => W.cell? (a.add i)) = some ys → ∀ (j : Nat), ys[j]? = (l[j]?).bind fun i => W.cell? (a.add i) := by
    intro l
    induction l with
    | nil => intro ys h j; simp at h; subst h; simp
    | cons b l ih =>
      intro ys h j
      simp only [List.mapM_cons] at h
      obtain ⟨c, hc, h⟩ := Option.bind_eq_some_iff.1 h
      obtain ⟨cs', hcs, h⟩ := Option.bind_eq_some_iff.1 h
      simp at h; subst h
      cases j with
      | zero => simp [hc]
      | succ j => simpa using ih cs' hcs j
  have := key _ _ h i
  rw [hu] at this
  simp [hi] at this
  exact this.symm
end
end Go.Proofs.YteaefambkagpbaaO

-- OpenW
namespace Go.Proofs.YteaefambkagpbaaO
set_option linter.unusedSimpArgs false
open Go Go.RowKit Go.ChangeShapes Go.WideShapes Go.ChangeAt Go.Proofs.YteaefambkagpbaaW.PrintWords
/-- cells of type t that can be read as data of no more weight than is reached are some x of kind d -/
def OpensW {α : Type} (P : Program) (t : TypeId) (d : Kd α) (ok : α → Prop) : Prop :=
  ∀ (H : Type) (enc : TypeId × Value → H) (W : World) (sp : Nat → Bool) (held : Bool) (fuel : Nat) (cs : List Value) (y : DataW H × List MemPlace), DataW.trod enc P W 0 sp held fuel t cs = some y → (∀ n ∈ y.1.weights P t, n ≤ reachBytes) → ∃ x, d.K W x cs ∧ ok x
section
variable {P : Program} {α : Type}
theorem Opens.w {t : TypeId} {d : Kd α} {ok : α → Prop} (h : Opens P t d ok) : OpensW P t d ok := fun H enc W sp held fuel cs y hy _ => h H enc W sp held fuel cs y hy
theorem mapM_mem {β γ : Type} {f : β → Option γ} : ∀ {l : List β} {ys : List γ}, l.mapM f = some ys → ∀ (x : β) (z : γ), x ∈ l → f x = some z → z ∈ ys
  | [], ys, h, x, z, hx, _ => by simp at hx
  | a :: l, ys, h, x, z, hx, hz => by
    simp only [List.mapM_cons] at h
    obtain ⟨b, hb, h⟩ := Option.bind_eq_some_iff.1 h
    obtain ⟨bs, hbs, h⟩ := Option.bind_eq_some_iff.1 h
    simp at h
    subst h
    rcases List.mem_cons.1 hx with rfl | hx
    · rw [hb] at hz; injection hz with hz; subst hz; simp
    · exact List.mem_cons_of_mem _ (mapM_mem hbs x z hx hz)
theorem weightsAll_mem {H : Type} {e : TypeId} {d : DataW H} {n : Nat} : ∀ {ds : List (DataW H)}, d ∈ ds → n ∈ d.weights P e → n ∈ DataW.weightsAll P e ds
  | [], h, _ => by simp at h
  | a :: ds, h, hn => by
    simp only [DataW.weightsAll]
    rcases List.mem_cons.1 h with rfl | h
    · exact List.mem_append_left _ hn
    · exact List.mem_append_right _ (weightsAll_mem h hn)
theorem opensW_slice {t e : TypeId} {d : Kd α} {ok : α → Prop} (hu : P.underlying t = some (.slice e)) (he : OpensW P e d ok) (hc : P.cellsOf e = d.sz) : OpensW P t (Kd.slice e d) (fun xs => ∀ x ∈ xs, ok x) := by
  intro H enc W sp held fuel cs y h hw
  cases fuel with
  | zero => simp [DataW.trod] at h
  | succ n =>
    have key : cs = [.slice none 0 0] ∨ ∃ a len cap, cs = [.slice (some a) len cap] ∧ len ≤ cap ∧ cap ≤ maxLen ∧ ∃ elems rest, (List.range len).mapM (fun i => (W.cells? 0 (a.add (i * P.cellsOf e)) (P.cellsOf e)).bind (DataW.trod enc P W 0 sp held n e)) = some elems ∧ y.1 = .slice (elems.map (·.1)) rest := by
      simp only [DataW.trod, hu] at h
      split at h <;> try (simp_all; done)
      rename_i e' a len cap heq
      simp only [Option.some.injEq, TypeDesc.slice.injEq] at heq
      subst heq
      split at h
      · rename_i hb
        obtain ⟨elems, he1, h⟩ := Option.bind_eq_some_iff.1 h
        obtain ⟨rest, _, h⟩ := Option.map_eq_some_iff.1 h
        refine .inr ⟨a, len, cap, rfl, hb.2.1, hb.2.2, elems, rest.map (·.1), he1, ?_⟩
        rw [← h]
      · cases h
    rcases key with rfl | ⟨a, len, cap, rfl, h1, h2, elems, rest, he1, hy⟩
    · exact ⟨[], ⟨none, 0, rfl, by simp, by simp [Kd.C, ReadsRow]⟩, by simp⟩
    · rw [hc] at he1
      have hm := mapM_get he1
      obtain ⟨xs, x1, x2, x3⟩ := choose_list (ok := ok) (Q := fun i x => ∃ c, W.cells? 0 (a.add (i * d.sz)) d.sz = some c ∧ d.K W x c) len (fun i hi => by
        obtain ⟨z, hz⟩ := hm.2 i i (by simp [hi])
        have hmem := mapM_mem he1 i z (by simp [hi]) hz
        obtain ⟨c, hc1, hc2⟩ := Option.bind_eq_some_iff.1 hz
        obtain ⟨x, hx, hk⟩ := he H enc W sp held n c z hc2 (fun q hq => hw q (by
          rw [hy]
          simp only [DataW.weights, hu]
          exact List.mem_cons_of_mem _ (List.mem_append_left _ (weightsAll_mem (List.mem_map_of_mem hmem) hq))))
        exact ⟨x, ⟨c, hc1, hx⟩, hk⟩)
      refine ⟨xs, ⟨some a, cap, by rw [x1], by omega, ?_⟩, x3⟩
      refine ⟨rfl, by have : maxLen = 9223372036854775807 := rfl; omega, fun _ => ⟨a, rfl, fun j p hp => ?_⟩⟩
      obtain ⟨c, hc1, hk⟩ := x2 j p hp
      have hg := cells_get hc1
      refine ⟨c, hg.1, hk, fun i u hiu => ?_⟩
      have := hg.2 i u hiu
      rw [← this]
      congr 1
      unfold Addr.add
      by_cases z1 : j * d.sz = 0
      · rw [if_pos z1]
        by_cases z2 : i = 0
        · simp [z1, z2]
        · rw [if_neg (by omega), if_neg z2]; simp [z1]
      · rw [if_neg z1, if_neg (by omega)]
        by_cases z2 : i = 0
        · simp [z2]
        · rw [if_neg z2]; simp [Nat.add_assoc]
/-- an argument of a kind -/
theorem opensW_arg {t : TypeId} {d : Kd α} {ok : α → Prop} (ho : OpensW P t d ok) {H : Type} {enc : TypeId × Value → H} {W : World} {sp : Nat → Bool} {held : Bool} {v : Value} {y : DataW H} {ps : List MemPlace} {ts : List TypeId} {ds : List (DataW H)} {j : Nat}
    (hsz : (DataW.weightsEach P ts ds).all (· ≤ reachBytes) = true) (ht : ts[j]? = some t) (hd : ds[j]? = some y) (h : DataW.Trod enc P W 0 sp held t v y ps) : ∃ x, d.K W x v.cells.toList ∧ ok x := by
  obtain ⟨fuel, hf⟩ := h
  exact ho H enc W sp held fuel _ _ hf (fun n hn => by
    have := List.all_eq_true.1 hsz _ (DataW.weights_mem_each ht hd n hn)
    simpa using this)
end
end Go.Proofs.YteaefambkagpbaaO

-- OpenS
namespace Go.Proofs.YteaefambkagpbaaO
set_option linter.unusedSimpArgs false
open Go Go.RowKit Go.ChangeShapes Go.WideShapes Go.ChangeAt Go.Proofs.YteaefambkagpbaaW.PrintWords
section
variable {P : Program} {α β : Type}
/-- the fields from a place on -/
def OpensF (P : Program) (fs : List Field) (off : Nat) (d : Kd α) (ok : α → Prop) : Prop :=
  ∀ (H : Type) (enc : TypeId × Value → H) (W : World) (sp : Nat → Bool) (held : Bool) (fuel : Nat) (cs : List Value) (ys : List (DataW H × List MemPlace)),
    fs.mapM (fun f => DataW.trod enc P W 0 sp held fuel f.type ((cs.drop f.offset).take (P.cellsOf f.type))) = some ys → (∀ n ∈ DataW.weightsEach P (fs.map (·.type)) (ys.map (·.1)), n ≤ reachBytes) →
    ∃ x, d.K W x ((cs.drop off).take d.sz) ∧ ok x
theorem opensF_one {f : Field} {d : Kd α} {ok : α → Prop} (h : OpensW P f.type d ok) (hc : P.cellsOf f.type = d.sz) : OpensF P [f] f.offset d ok := by
  intro H enc W sp held fuel cs ys hy hw
  simp only [List.mapM_cons, List.mapM_nil] at hy
  obtain ⟨y, hy1, hy⟩ := Option.bind_eq_some_iff.1 hy
  simp at hy
  subst hy
  rw [hc] at hy1
  exact h H enc W sp held fuel _ y hy1 fun n hn => hw n (by simp [DataW.weightsEach, hn])
theorem opensF_cons {f : Field} {fs : List Field} {d : Kd α} {d2 : Kd β} {ok : α → Prop} {ok2 : β → Prop} (h : OpensW P f.type d ok) (hc : P.cellsOf f.type = d.sz) (h2 : OpensF P fs (f.offset + d.sz) d2 ok2) :
    OpensF P (f :: fs) f.offset (Kd.pair d d2) (fun x => ok x.1 ∧ ok2 x.2) := by
  intro H enc W sp held fuel cs ys hy hw
  simp only [List.mapM_cons] at hy
  obtain ⟨y, hy1, hy⟩ := Option.bind_eq_some_iff.1 hy
  obtain ⟨ys2, hy2, hy⟩ := Option.bind_eq_some_iff.1 hy
  simp at hy
  subst hy
  rw [hc] at hy1
  obtain ⟨x1, k1, o1⟩ := h H enc W sp held fuel _ y hy1 fun n hn => hw n (by simp [DataW.weightsEach, hn])
  obtain ⟨x2, k2, o2⟩ := h2 H enc W sp held fuel cs ys2 hy2 fun n hn => hw n (by
    simp only [List.map_cons, DataW.weightsEach]
    exact List.mem_append_right _ hn)
  refine ⟨(x1, x2), ⟨_, _, ?_, k1, k2⟩, o1, o2⟩
  show (cs.drop f.offset).take (d.sz + d2.sz) = _
  rw [List.take_add, List.drop_drop]
theorem opensW_struct {t : TypeId} {fs : Array Field} {d : Kd α} {ok : α → Prop} (hu : P.underlying t = some (.struct fs)) (h : OpensF P fs.toList 0 d ok) (hc : P.cellsOf t = d.sz) : OpensW P t d ok := by
  intro H enc W sp held fuel cs y hy hw
  cases fuel with
  | zero => simp [DataW.trod] at hy
  | succ n =>
    have key : cs.length = P.cellsOf t ∧ ∃ ys, fs.toList.mapM (fun f => DataW.trod enc P W 0 sp held n f.type ((cs.drop f.offset).take (P.cellsOf f.type))) = some ys ∧ y.1 = .agg (ys.map (·.1)) := by
      simp only [DataW.trod, hu] at hy
      split at hy
      · rename_i hl
        obtain ⟨ys, h1, h2⟩ := Option.map_eq_some_iff.1 hy
        exact ⟨hl, ys, h1, by rw [← h2]⟩
      · cases hy
    obtain ⟨hl, ys, hy1, hy2⟩ := key
    obtain ⟨x, hx, ho⟩ := h H enc W sp held n cs ys hy1 fun q hq => hw q (by
      rw [hy2]
      simp only [DataW.weights, hu]
      exact hq)
    refine ⟨x, ?_, ho⟩
    rw [List.drop_zero, ← hc, ← hl, List.take_length] at hx
    exact hx
theorem opensW_iso {t : TypeId} {d : Kd α} {ok : α → Prop} (f : β → α) (g : α → β) (hfg : ∀ x, f (g x) = x) (h : OpensW P t d ok) : OpensW P t (Kd.iso d f) (fun x => ok (f x)) := by
  intro H enc W sp held fuel cs y hy hw
  obtain ⟨x, hx, ho⟩ := h H enc W sp held fuel cs y hy hw
  exact ⟨g x, by show d.K W (f (g x)) cs; rw [hfg]; exact hx, by show ok (f (g x)); rw [hfg]; exact ho⟩
end
end Go.Proofs.YteaefambkagpbaaO
