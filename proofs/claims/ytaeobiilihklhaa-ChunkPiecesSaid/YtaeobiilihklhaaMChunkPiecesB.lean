/- Texts of this seat laid together: F13, ChunkD, F32, F21, F14, F20, F25, F12, ChunkR, ChunkWhole, ChunkPieces, Open, OpenW. -/
import Derived.Test.YtaeobiilihklhaaMChunkPiecesA
import Derived.Test.YtaeobiilihklhaaWArr
import Derived.SizedLaws
import Derived.ChangeSlices
import Derived.WideKeyArr2
import Derived.WalkKit
import Derived.ProofKit
import Derived.OpenShut

-- F13
namespace Go.Proofs.Ytaeobiilihklhaa.F
open Go.RowKit Go.Proofs.YtaeobiilihklhaaW.PrintWords Go.Proofs.YtaeobiilihklhaaW.PrintLast Go.Proofs.YtaeobiilihklhaaW.PrintMore
attribute [local go_sem] max2_int min2_int max_two min_two max_three min_three max_four min_four   -- for this text's walks alone
set_option linter.unusedVariables false
set_option linter.unusedSimpArgs false

/-! ### strongroomref17_Same: function 13 -/
def strongroomref17_Same.l0 : Nat → List ByteArray → List ByteArray → Int → Option (Bool)
  | 0, _, _, _ => none
  | k + 1, x0, x1, x5 => if x5 < (x0.length : Int) then (if 0 ≤ x5 then (if x5 < (x1.length : Int) then (if (rdOf ByteArray.empty x0 x5).toList = (rdOf ByteArray.empty x1 x5).toList then (strongroomref17_Same.l0 k x0 x1 (wrap64 (x5 + 1))) else (some false)) else (none)) else (none)) else (some true)
def strongroomref17_Same.f (k : Nat) (l0 : List ByteArray) (l1 : List ByteArray) : Option (Bool) := if (l0.length : Int) = (l1.length : Int) then (strongroomref17_Same.l0 k l0 l1 0) else (some false)
theorem strongroomref17_Same.mono_l : ∀ k, (∀ y0 y1 y2, LeO (strongroomref17_Same.l0 k y0 y1 y2) (strongroomref17_Same.l0 (k + 1) y0 y1 y2))
  | 0 => fun _ _ _ r h => by simp [strongroomref17_Same.l0] at h
  | k + 1 => by
    have ih0 := strongroomref17_Same.mono_l k
    · intro y0 y1 y2
      unfold strongroomref17_Same.l0
      repeat' first
      | (with_reducible exact ih0 _ _ _)
      | (with_reducible exact LeO.refl _)
      | (with_reducible exact LeO.none _)
      | (with_reducible refine LeO.ite ?_ ?_)
      | (with_reducible refine LeO.bind ?_ (fun _ => ?_))
      | exact ih0 _ _ _
      | exact LeO.none _
      | refine LeO.ite ?_ ?_
      | refine LeO.bind ?_ (fun _ => ?_)
theorem strongroomref17_Same.mono : ∀ a0 a1 k, LeO (strongroomref17_Same.f k a0 a1) (strongroomref17_Same.f (k + 1) a0 a1) := by
  intro a0 a1 k
  have ih0 := strongroomref17_Same.mono_l k
  unfold strongroomref17_Same.f
  repeat' first
      | (with_reducible exact ih0 _ _ _)
      | (with_reducible exact LeO.refl _)
      | (with_reducible exact LeO.none _)
      | (with_reducible refine LeO.ite ?_ ?_)
      | (with_reducible refine LeO.bind ?_ (fun _ => ?_))
      | exact ih0 _ _ _
      | exact LeO.none _
      | refine LeO.ite ?_ ?_
      | refine LeO.bind ?_ (fun _ => ?_)
set_option maxHeartbeats 8000000 in
set_option maxRecDepth 100000 in
theorem strongroomref17_Same.calls (k : Nat) (A0 : Option Addr) (c0 : Nat) (l0 : List ByteArray) (A1 : Option Addr) (c1 : Nat) (l1 : List ByteArray) (r : Bool) (w : World) (hr0 : Kd.C Kd.string w A0 l0.length l0) (hc0 : l0.length ≤ c0) (hr1 : Kd.C Kd.string w A1 l1.length l1) (hc1 : l1.length ≤ c1) (h : strongroomref17_Same.f k l0 l1 = some r) :
    Calls Try.prog 13 #[.slice A0 l0.length c0, .slice A1 l1.length c1] w fun e w' => e = .returned (.bool r) ∧ Drawn0 w w' := by
  have HR0 := Aside0.mk hr0
  have HC0 := Aside0.mk hc0
  clear hr0 hc0
  have HR1 := Aside0.mk hr1
  have HC1 := Aside0.mk hc1
  clear hr1 hc1
  have H : (if (l0.length : Int) = (l1.length : Int) then (strongroomref17_Same.l0 k l0 l1 0) else (some false)) = some r := h
  clear h
  by_cases c3 : (l0.length : Int) = (l1.length : Int)
  · rw [if_pos c3] at H
    have c3b0 : ((l0.length : Int) == (l1.length : Int)) = true := beq_iff_eq.mpr c3
    have c3b1 : ((l0.length : Int) != (l1.length : Int)) = false := bne_eq_false_iff_eq.mpr c3
    have c3b2 : (l0.length == l1.length) = true := by first | simpa using c3 | (simp at c3 ⊢; omega)
    clear c3
    have H' := Aside0.mk H
    clear H
    go_enter Try.func13, Try.ntmps13
    go_wp2
    repeat (go_quiet (fail); try go_wp2)
    go_loopg [5] k (fun kq v5 w' => ∃ (x5_1 : Int), v5 = .int .i64 x5_1 ∧ Aside0 (strongroomref17_Same.l0 kq l0 l1 x5_1 = some r) ∧ Aside0 (kq ≤ k) ∧ Drawn0 w w')
    case atStart => exact ⟨(0), (by first | rfl | (simp; done) | (simp [*]; done)), H', ⟨Nat.le_refl _⟩, by repeat (first | exact Drawn0.refl _ | apply Drawn0.step)⟩
    case round =>
      clear H'
      try clear c1
      try clear p2
      try clear c3
      try clear c3b0
      try clear c3b1
      try clear c3b2
      obtain ⟨x5_1, rfl, HA, HK1, ⟨m1, rfl⟩⟩ := hrel
      cases gk with
      | zero => exact absurd HA.out (by simp [strongroomref17_Same.l0])
      | succ k1 =>
        have H := HA.out
        clear HA
        simp only [strongroomref17_Same.l0] at H
        by_cases c4 : x5_1 < (l0.length : Int)
        · rw [if_pos c4] at H
          have c4b0 : decide (x5_1 < (l0.length : Int)) = true := decide_eq_true c4
          clear c4
          by_cases c5 : 0 ≤ x5_1
          · rw [if_pos c5] at H
            have c5b0 : decide (0 ≤ x5_1) = true := decide_eq_true c5
            clear c5
            by_cases c6 : x5_1 < (l1.length : Int)
            · rw [if_pos c6] at H
              have c6b0 : decide (x5_1 < (l1.length : Int)) = true := decide_eq_true c6
              clear c6
              by_cases c7 : (rdOf ByteArray.empty l0 x5_1).toList = (rdOf ByteArray.empty l1 x5_1).toList
              · rw [if_pos c7] at H
                have c7b0 : ((rdOf ByteArray.empty l0 x5_1).toList == (rdOf ByteArray.empty l1 x5_1).toList) = true := beq_iff_eq.mpr c7
                have c7b1 : ((rdOf ByteArray.empty l0 x5_1).toList != (rdOf ByteArray.empty l1 x5_1).toList) = false := bne_eq_false_iff_eq.mpr c7
                clear c7
                have H' := Aside0.mk H
                clear H
                have p105 : 0 ≤ (x5_1 : Int) := of_decide_eq_true (by first | (with_reducible assumption) | assumption)
                have q105 : x5_1 < (l0.length : Int) := of_decide_eq_true (by first | (with_reducible assumption) | assumption)
                obtain ⟨ad105, e105, hx105_0⟩ := Kd.at_string HR0.out x5_1 p105 q105
                cases e105
                replace p105 := eq_true p105
                replace q105 := eq_true q105
                have p106 : 0 ≤ (x5_1 : Int) := of_decide_eq_true (by first | (with_reducible assumption) | assumption)
                have q106 : x5_1 < (l1.length : Int) := of_decide_eq_true (by first | (with_reducible assumption) | assumption)
                obtain ⟨ad106, e106, hx106_0⟩ := Kd.at_string HR1.out x5_1 p106 q106
                cases e106
                replace p106 := eq_true p106
                replace q106 := eq_true q106
                go_wp2
                repeat (go_quiet (fail); try go_wp2)
                go_roundg k1
                case measure => have := HK1.out; omega
                case rel => exact ⟨(wrap64 (x5_1 + 1)), (by first | rfl | (simp; done) | (simp [*]; done)), H', ⟨by have := HK1.out; omega⟩, by repeat (first | exact Drawn0.refl _ | apply Drawn0.step)⟩
              · rw [if_neg c7] at H
                have c7b0 : ((rdOf ByteArray.empty l0 x5_1).toList == (rdOf ByteArray.empty l1 x5_1).toList) = false := beq_eq_false_iff_ne.mpr c7
                have c7b1 : ((rdOf ByteArray.empty l0 x5_1).toList != (rdOf ByteArray.empty l1 x5_1).toList) = true := bne_iff_ne.mpr c7
                obtain rfl := Option.some.inj H
                have p105 : 0 ≤ (x5_1 : Int) := of_decide_eq_true (by first | (with_reducible assumption) | assumption)
                have q105 : x5_1 < (l0.length : Int) := of_decide_eq_true (by first | (with_reducible assumption) | assumption)
                obtain ⟨ad105, e105, hx105_0⟩ := Kd.at_string HR0.out x5_1 p105 q105
                cases e105
                replace p105 := eq_true p105
                replace q105 := eq_true q105
                have p106 : 0 ≤ (x5_1 : Int) := of_decide_eq_true (by first | (with_reducible assumption) | assumption)
                have q106 : x5_1 < (l1.length : Int) := of_decide_eq_true (by first | (with_reducible assumption) | assumption)
                obtain ⟨ad106, e106, hx106_0⟩ := Kd.at_string HR1.out x5_1 p106 q106
                cases e106
                replace p106 := eq_true p106
                replace q106 := eq_true q106
                go_wp2
                repeat (go_quiet (fail); try go_wp2)
                go_ret
                exact ⟨by first | rfl | (simp; done) | (simp [*]; done), by repeat (first | exact Drawn0.refl _ | apply Drawn0.step)⟩
            · rw [if_neg c6] at H
              exact absurd H (by simp)
          · rw [if_neg c5] at H
            exact absurd H (by simp)
        · rw [if_neg c4] at H
          have c4b0 : decide (x5_1 < (l0.length : Int)) = false := decide_eq_false c4
          clear c4
          obtain rfl := Option.some.inj H
          go_wp2
          repeat (go_quiet (fail); try go_wp2)
          go_ret
          exact ⟨by first | rfl | (simp; done) | (simp [*]; done), by repeat (first | exact Drawn0.refl _ | apply Drawn0.step)⟩
  · rw [if_neg c3] at H
    have c3b0 : ((l0.length : Int) == (l1.length : Int)) = false := beq_eq_false_iff_ne.mpr c3
    have c3b1 : ((l0.length : Int) != (l1.length : Int)) = true := bne_iff_ne.mpr c3
    have c3b2 : (l0.length == l1.length) = false := by first | simpa using c3 | (simp at c3 ⊢; omega)
    obtain rfl := Option.some.inj H
    go_enter Try.func13, Try.ntmps13
    go_wp2
    repeat (go_quiet (fail); try go_wp2)
    go_ret
    exact ⟨by first | rfl | (simp; done) | (simp [*]; done), by repeat (first | exact Drawn0.refl _ | apply Drawn0.step)⟩

-- NOT PRINTED: function 9 (strongroomlaw17_lives)

end Go.Proofs.Ytaeobiilihklhaa.F

-- ChunkD
namespace Go.Proofs.Ytaeobiilihklhaa.F
open Go Go.RowKit Go.Proofs.YtaeobiilihklhaaW.PrintWords Go.Proofs.YtaeobiilihklhaaW.PrintLast Go.Proofs.YtaeobiilihklhaaW.PrintMore Go.Proofs.YtaeobiilihklhaaM Go.Proofs.YtaeobiilihklhaaR
attribute [local go_sem] max2_int min2_int max_two min_two
set_option linter.unusedSimpArgs false
set_option linter.unusedVariables false
set_option maxRecDepth 100000
/-- texts in a row of the call's own, and no error -/
def Strs2o (base : Nat) (ss : List ByteArray) : World → Value → Prop := fun w v => ∃ v0, v = .tuple #[v0, .int .i64 0] ∧ w.ownsRow base 9 1 v0 ss.length (encs Value.string ss)
theorem cut_no (t : ByteArray) (lo hi bits : Int) (w : World) (hm : ¬ mayM lo hi bits) : Calls Try.prog 10 #[.string t, .agg #[.int .i64 lo, .int .i64 hi, .int .i64 bits]] w (Tells w (Is (.tuple #[.slice none 0 0, .int .i64 1]))) := by
  have HC := Lib.hid (fun w => cnew_no lo hi bits w hm)
  clear hm
  go_enter Try.func10, Try.ntmps10
  go_wp2_with fail
  refine (HC.out _).mono ?_
  rintro e w1 ⟨_, rfl, rfl, hg1⟩
  go_wp2_with fail
  go_ret2
  exact ⟨_, rfl, rfl, (Grew.alloc _ _).trans hg1⟩
set_option maxHeartbeats 4000000 in
theorem cut_c (t : ByteArray) (lo hi bits : Int) (w : World) (hm : mayM lo hi bits) (ht : t.size ≤ 100000) : Calls Try.prog 10 #[.string t, .agg #[.int .i64 lo, .int .i64 hi, .int .i64 bits]] w (Tells w (Strs2o w.heap.size (strs (chunksL lo hi bits (bytesOf t))))) := by
  have HC := Lib.hid (fun w => cnew_c lo hi bits w hm)
  have hby := fun W => print_bytes (P := Try.prog) 9 42 5 Try.underlying9 Try.underlying42 Try.underlying5 t W
  have HM := Lib.hid hm
  have hlo : (0 : Int) < hi := by have h1 := hm.1; have h2 := hm.2.1; omega
  clear hm
  go_enter Try.func10, Try.ntmps10
  go_wp2_with fail
  refine (HC.out _).mono ?_
  rintro e w1 ⟨_, rfl, ⟨gc, g, gb, rfl, hcut⟩, hg1⟩
  have hB : (w.alloc (Obj.cells #[Value.int IntKind.i64 lo, Value.int IntKind.i64 hi, Value.int IntKind.i64 bits] 23)).heap.size ≤ w1.heap.size := hg1.size
  have hgb : Grew w1 (Lib.bytesWorld w1 5 t) := bytes_below (Below.refl _ _) (Nat.le_refl _) _ _
  have hlt := hcut.win.lt
  have hlc := hcut.cells.lt
  have hWr := write_c (Lib.bytesWorld w1 5 t) (some ⟨w1.heap.size, 0, none⟩) (grownCap w1 t.size 0 5) (bytesOf t) (hcut.grew hgb) HM.out (by simpa using hlo) (Nat.le_trans hB hgb.size)
    (fun w' hu => C_upd (C_of (by rw [bytesOf_length]; exact bytes_reads w1 5 t (by omega))) hu (fun ad hA hS => by
      injection hA with hA
      subst hA
      rcases hS with h | h | h | h
      · simp only at h; omega
      · simp only at h; omega
      · simp only at h; omega
      · simp [Value.ownBlock] at h)) (by rw [bytesOf_length]; exact grownCap_ge _ _ _ _) (by rw [bytesOf_length]; exact ht) (fun x hx => by
      obtain ⟨b, _, rfl⟩ := List.mem_map.1 hx
      have := b.toNat_lt
      omega)
  rw [bytesOf_length] at hWr
  obtain ⟨res, hres⟩ : ∃ res, res = cutRun lo hi bits [] [] (bytesOf t) [] := ⟨_, rfl⟩
  have hfin : chunksL lo hi bits (bytesOf t) = res.1 ++ opt res.2.2 := by rw [hres]; rfl
  rw [← hres] at hWr
  have HWr := Lib.hid hWr
  have HF := Lib.hid hfin
  have HL := Lib.hid (show res.1.length ≤ 100000 by
    have := cutRun_len lo hi bits (bytesOf t) [] [] []
    rw [hres]
    rw [bytesOf_length] at this
    simp at this ⊢; omega)
  clear hWr hfin hres
  go_wp2_with fail
  refine HWr.out.mono ?_
  rintro e w3 ⟨v3, rfl, ⟨hown, vb, hcut3, hfr⟩, hu3⟩
  go_wp2_with fail
  refine (end_c w3 hcut3).mono ?_
  rintro e w4 ⟨_, rfl, ⟨rfl, vb4, hcut4, hfr4⟩, hu4⟩
  have hown4 := hu4.own hown (hcut3.own_far hown (by decide) (by decide) (by decide))
  have hBs : w.heap.size + 1 = (w.alloc (Obj.cells #[Value.int IntKind.i64 lo, Value.int IntKind.i64 hi, Value.int IntKind.i64 bits] 23)).heap.size := by simp
  have hgw1 : Grew w w1 := (Grew.alloc _ _).trans hg1
  have hgw2 : Grew w (Lib.bytesWorld w1 5 t) := hgw1.trans hgb
  have hk1 := hcut.b1
  have hk2 := hcut.b2
  have hk3 := hcut.b3
  have hgs2 := hgb.size
  have hgw3 : Grew w w3 := Below.trans hgw2 (hu3.below (B := w.heap.size) hgw2.size (fun i hi => by
    rcases hi with rfl | rfl | rfl | h
    · omega
    · omega
    · omega
    · simp [Value.ownBlock] at h))
  have hgw4 : Grew w w4 := Below.trans hgw3 (hu4.below (B := w.heap.size) hgw3.size (fun i hi => by
    rcases hi with rfl | rfl | rfl | h
    · omega
    · omega
    · omega
    · rcases hfr i h with h | h
      · simp [Value.ownBlock] at h
      · omega))
  have hown5 := own_weaken hown4 (base' := w.heap.size) (by omega)
  clear hown hown4 hBs hk1 hk2 hk3 hgw1 hgw2 hgw3 hu4 hu3 hcut3 hcut4 hfr hfr4 hcut hlt hlc hgs2 hgb hB hby
  rcases he : res.2.2 with _ | ⟨x, l⟩
  · rw [he] at HF
    have hd : (!([] : List Int).isEmpty) = false := rfl
    rw [hd]
    go_wp2_with fail
    go_ret2
    refine ⟨_, rfl, ⟨_, rfl, ?_⟩, hgw4⟩
    rw [HF.out]
    simpa [strs, opt] using hown5
  · rw [he] at HF
    have hd : (!(x :: l).isEmpty) = true := rfl
    rw [hd]
    have hlen := HL.out
    obtain ⟨vn, wn, hrn, hown8, hgr8, hat8⟩ := app_row (P := Try.prog) Value.string ByteArray.empty (fun _ => rfl) (w4.alloc (.cells #[.string (strOfNums (x :: l))] 9)) w.heap.size 25 9 25 (.string ⟨#[]⟩) 16 Try.underlying25 info9 rfl (by decide) _ (strs res.1) [strOfNums (x :: l)] _ 1 1 (by rw [strs_len]; exact hown5.alloc _) ((Blk.new w4 9 (encs Value.string [strOfNums (x :: l)])).reads_of (by simp)) (by have := hgw4.size; simp; omega) (by rw [strs_len]; omega)
    have hU8 := Upd.of_alloc_grown hgr8
    have hgw5 : Grew w wn := Below.trans hgw4 (hU8.below (B := w.heap.size) hgw4.size (fun i hi => own_base hown5 i hi))
    have Hown8 := Lib.hid hown8
    clear hown8 hU8 hgr8 hown5
    go_wp2_with (at_builtin; refine wpList_app (by rfl) (.tmp 29) (.tmp 31) 25 (by rfl) (by rfl) (by rfl) hrn ?_)
    go_ret2
    refine ⟨_, rfl, ⟨_, rfl, ?_⟩, hgw5⟩
    rw [HF.out]
    have := Hown8.out
    simpa [strs, opt] using this
theorem same_l0 (ss : List ByteArray) (hn : ss.length ≤ 9223372036854775807) : ∀ (suf pre : List ByteArray) (k : Nat), ss = pre ++ suf → suf.length + 1 ≤ k → strongroomref17_Same.l0 k ss ss (pre.length : Int) = some true := by
  intro suf
  induction suf with
  | nil =>
    intro pre k hp hk
    obtain ⟨k, rfl⟩ : ∃ m, k = m + 1 := ⟨k - 1, by omega⟩
    have : ss.length = pre.length := by rw [hp]; simp
    simp only [strongroomref17_Same.l0]
    rw [if_neg (by omega)]
  | cons s suf ih =>
    intro pre k hp hk
    obtain ⟨k, rfl⟩ : ∃ m, k = m + 1 := ⟨k - 1, by omega⟩
    have hlen : ss.length = pre.length + suf.length + 1 := by rw [hp]; simp; omega
    rw [List.length_cons] at hk
    simp only [strongroomref17_Same.l0]
    rw [if_pos (show (pre.length : Int) < (ss.length : Int) from by omega), if_pos (show (0 : Int) ≤ (pre.length : Int) from by omega), if_pos (show (pre.length : Int) < (ss.length : Int) from by omega), if_pos trivial, w64 (by omega) (by omega)]
    have := ih (pre ++ [s]) k (by rw [hp]; simp) (by omega)
    rwa [show ((pre ++ [s]).length : Int) = (pre.length : Int) + 1 from by simp] at this
theorem same_c (A : Option Addr) (c : Nat) (A1 : Option Addr) (c1 : Nat) (ss : List ByteArray) (w : World) (hr : Kd.C Kd.string w A ss.length ss) (hc : ss.length ≤ c) (hr1 : Kd.C Kd.string w A1 ss.length ss) (hc1 : ss.length ≤ c1) (hn : ss.length ≤ 9223372036854775807) :
    Calls Try.prog 13 #[.slice A ss.length c, .slice A1 ss.length c1] w (Tells w (Is (.bool true))) := by
  refine tells_is ((strongroomref17_Same.calls (ss.length + 1) A c ss A1 c1 ss _ w hr hc hr1 hc1 ?_).mono fun _ _ ⟨h, k⟩ => ⟨h, drawn_below k⟩)
  unfold strongroomref17_Same.f
  rw [if_pos rfl]
  exact same_l0 ss hn ss [] _ rfl (by omega)
theorem own_strs {w : World} {base n : Nat} {e : TypeId} {v : Value} {l : List ByteArray} (h : w.ownsRow base e 1 v n (encs Value.string l)) : ∃ A c, v = .slice A n c ∧ l.length = n ∧ n ≤ c ∧ Kd.C Kd.string w A n l := by
  have hl : l.length = n := by have := h.1; simp [encs] at this; exact this
  obtain ⟨A, c, rfl, hr⟩ := own_reads_of (d := ByteArray.empty) h
  exact ⟨A, c, rfl, hl, own_le h, Kd.C_of_reads (h1 := fun _ => rfl) hr⟩
theorem chunks_abcde : strs (chunksL 2 9 0 (bytesOf ⟨#[97, 98, 99, 100, 101]⟩)) = [⟨#[97, 98]⟩, ⟨#[99, 100]⟩, ⟨#[101]⟩] := by
  have e : chunksL 2 9 0 (bytesOf ⟨#[97, 98, 99, 100, 101]⟩) = [[97, 98], [99, 100], [101]] := by decide +kernel
  rw [e]; rfl
theorem lives_c (w : World) : Calls Try.prog 9 #[] w (Tells w (Is (.bool true))) := by
  have hc := cut_c ⟨#[97, 98, 99, 100, 101]⟩ 2 9 0 w ⟨by omega, by omega, by omega, by omega, by omega⟩ (by decide)
  rw [chunks_abcde] at hc
  have HC := Lib.hid hc
  clear hc
  go_enter Try.func9, Try.ntmps9
  go_wp2_with fail
  refine HC.out.mono ?_
  rintro e w1 ⟨_, rfl, ⟨v0, rfl, hown⟩, hg1⟩
  obtain ⟨A, c, rfl, -, hcc, hC⟩ := own_strs hown
  have hlit := (Blk.new w1 9 (encs Value.string [(⟨#[97, 98]⟩ : ByteArray), ⟨#[99, 100]⟩, ⟨#[101]⟩])).reads_of (d := ByteArray.empty) (by simp)
  have hCl := Kd.C_of_reads (h1 := fun _ => rfl) hlit
  have hs := same_c A c (some ⟨w1.heap.size, 0, none⟩) 3 _ _ (Kd.C_below hC (Grew.alloc w1 _)) hcc hCl (by simp) (by simp)
  have HS := Lib.hid hs
  clear hs hlit hCl hC hown
  go_wp2_with fail
  refine HS.out.mono ?_
  rintro e w2 ⟨_, rfl, rfl, hg2⟩
  go_wp2
  go_ret
  exact ⟨_, rfl, rfl, hg1.trans (Grew.trans (Grew.alloc w1 _) hg2)⟩
end Go.Proofs.Ytaeobiilihklhaa.F

-- F32
namespace Go.Proofs.Ytaeobiilihklhaa.F
open Go.RowKit Go.Proofs.YtaeobiilihklhaaW.PrintWords Go.Proofs.YtaeobiilihklhaaW.PrintLast Go.Proofs.YtaeobiilihklhaaW.PrintMore
attribute [local go_sem] max2_int min2_int max_two min_two max_three min_three max_four min_four   -- for this text's walks alone
set_option linter.unusedVariables false
set_option linter.unusedSimpArgs false

/-! ### strongroomref04_Last: function 32 -/
def strongroomref04_Last.f (a0 : ByteArray) (a1 : Int) : Option (ByteArray) := if (a0.size : Int) ≤ a1 then (some a0) else (if 0 ≤ (wrap64 ((a0.size : Int) - a1)) then (if (wrap64 ((a0.size : Int) - a1)) ≤ (a0.size : Int) then (some (a0.extract ((wrap64 ((a0.size : Int) - a1)) : Int).toNat a0.size)) else (none)) else (none))
set_option maxHeartbeats 8000000 in
set_option maxRecDepth 100000 in
theorem strongroomref04_Last.calls (a0 : ByteArray) (a1 : Int) (r : ByteArray) (w : World) (h : strongroomref04_Last.f a0 a1 = some r) :
    Calls Try.prog 32 #[.string a0, .int .i64 a1] w fun e w' => e = .returned (.string r) ∧ Drawn0 w w' := by
  have H : (if (a0.size : Int) ≤ a1 then (some a0) else (if 0 ≤ (wrap64 ((a0.size : Int) - a1)) then (if (wrap64 ((a0.size : Int) - a1)) ≤ (a0.size : Int) then (some (a0.extract ((wrap64 ((a0.size : Int) - a1)) : Int).toNat a0.size)) else (none)) else (none))) = some r := h
  clear h
  by_cases c3 : (a0.size : Int) ≤ a1
  · rw [if_pos c3] at H
    have c3b0 : decide ((a0.size : Int) ≤ a1) = true := decide_eq_true c3
    clear c3
    obtain rfl := Option.some.inj H
    go_enter Try.func32, Try.ntmps32
    go_wp2
    go_ret
    exact ⟨by first | rfl | (simp; done) | (simp [*]; done), by repeat (first | exact Drawn0.refl _ | apply Drawn0.step)⟩
  · rw [if_neg c3] at H
    have c3b0 : decide ((a0.size : Int) ≤ a1) = false := decide_eq_false c3
    clear c3
    obtain ⟨ji4, hji4⟩ : ∃ j_ : Int, (wrap64 ((a0.size : Int) - a1)) = j_ := ⟨_, rfl⟩
    replace H : (if 0 ≤ (ji4) then (if (ji4) ≤ (a0.size : Int) then (some (a0.extract ((ji4) : Int).toNat a0.size)) else (none)) else (none)) = some r := by first | (rw [hji4] at H; exact H) | (simp only [hji4] at H ⊢; exact H)
    have hji4w : (IntKind.i64.wrap ((a0.size : Int) - a1)) = ji4 := (i64_w _).trans hji4
    by_cases c5 : 0 ≤ (ji4)
    · rw [if_pos c5] at H
      have c5b0 := eq_true c5
      have c5b1 : decide (0 ≤ (ji4)) = true := decide_eq_true c5
      clear c5
      by_cases c6 : (ji4) ≤ (a0.size : Int)
      · rw [if_pos c6] at H
        have c6b0 := eq_true c6
        have c6b1 : decide ((ji4) ≤ (a0.size : Int)) = true := decide_eq_true c6
        clear c6
        obtain rfl := Option.some.inj H
        go_enter Try.func32, Try.ntmps32
        go_wp2
        go_ret
        exact ⟨by first | rfl | (simp; done) | (simp only [← hji4] <;> (first | rfl | simp)) | (simp [*]; done), by repeat (first | exact Drawn0.refl _ | apply Drawn0.step)⟩
      · rw [if_neg c6] at H
        exact absurd H (by simp)
    · rw [if_neg c5] at H
      exact absurd H (by simp)

end Go.Proofs.Ytaeobiilihklhaa.F

-- F21
namespace Go.Proofs.Ytaeobiilihklhaa.F
open Go.RowKit Go.Proofs.YtaeobiilihklhaaW.PrintWords Go.Proofs.YtaeobiilihklhaaW.PrintLast Go.Proofs.YtaeobiilihklhaaW.PrintMore
attribute [local go_sem] max2_int min2_int max_two min_two max_three min_three max_four min_four   -- for this text's walks alone
set_option linter.unusedVariables false
set_option linter.unusedSimpArgs false

/-! ### strongroomref17_Mark: function 21 -/
mutual
def strongroomref17_Mark.l0 : Nat → Int → Int → Int → Option (Bool)
  | 0, _, _, _ => none
  | k + 1, x1, x6, x7 => if x7 < x1 then (strongroomref17_Mark.j1 k x1 x6 x7 (decide (x7 < 32))) else (strongroomref17_Mark.j1 k x1 x6 x7 false)
def strongroomref17_Mark.j1 : Nat → Int → Int → Int → Bool → Option (Bool)
  | 0, _, _, _, _ => none
  | k + 1, x1, x6, x7, x19 => if x19 = true then (if x6 ≥ 2147483648 then (some false) else (strongroomref17_Mark.l0 k x1 ((x6 * 2) % 4294967296) (wrap64 (x7 + 1)))) else (some true)
end
def strongroomref17_Mark.f (k : Nat) (a0 : ByteArray) (a1 : Int) : Option (Bool) := (strongroomref04_Last.f a0 16).bind fun t109 => ((strongroomref04_Sum.f k t109).bind fun t110 => (strongroomref17_Mark.l0 k a1 ((t110 * 2654435761) % 4294967296) 0))
theorem strongroomref17_Mark.mono_l : ∀ k, (∀ y0 y1 y2, LeO (strongroomref17_Mark.l0 k y0 y1 y2) (strongroomref17_Mark.l0 (k + 1) y0 y1 y2)) ∧ (∀ y0 y1 y2 y3, LeO (strongroomref17_Mark.j1 k y0 y1 y2 y3) (strongroomref17_Mark.j1 (k + 1) y0 y1 y2 y3))
  | 0 => ⟨fun _ _ _ r h => by simp [strongroomref17_Mark.l0] at h, fun _ _ _ _ r h => by simp [strongroomref17_Mark.j1] at h⟩
  | k + 1 => by
    obtain ⟨ih0, ih1⟩ := strongroomref17_Mark.mono_l k
    refine ⟨?_, ?_⟩
    · intro y0 y1 y2
      unfold strongroomref17_Mark.l0
      repeat' first
      | (with_reducible exact ih0 _ _ _)
      | (with_reducible exact ih1 _ _ _ _)
      | (with_reducible exact strongroomref04_Sum.mono _ _)
      | (with_reducible exact LeO.refl _)
      | (with_reducible exact LeO.none _)
      | (with_reducible refine LeO.ite ?_ ?_)
      | (with_reducible refine LeO.bind ?_ (fun _ => ?_))
      | exact ih0 _ _ _
      | exact ih1 _ _ _ _
      | exact strongroomref04_Sum.mono _ _
      | exact LeO.none _
      | refine LeO.ite ?_ ?_
      | refine LeO.bind ?_ (fun _ => ?_)
    · intro y0 y1 y2 y3
      unfold strongroomref17_Mark.j1
      repeat' first
      | (with_reducible exact ih0 _ _ _)
      | (with_reducible exact ih1 _ _ _ _)
      | (with_reducible exact strongroomref04_Sum.mono _ _)
      | (with_reducible exact LeO.refl _)
      | (with_reducible exact LeO.none _)
      | (with_reducible refine LeO.ite ?_ ?_)
      | (with_reducible refine LeO.bind ?_ (fun _ => ?_))
      | exact ih0 _ _ _
      | exact ih1 _ _ _ _
      | exact strongroomref04_Sum.mono _ _
      | exact LeO.none _
      | refine LeO.ite ?_ ?_
      | refine LeO.bind ?_ (fun _ => ?_)
theorem strongroomref17_Mark.mono : ∀ a0 a1 k, LeO (strongroomref17_Mark.f k a0 a1) (strongroomref17_Mark.f (k + 1) a0 a1) := by
  intro a0 a1 k
  obtain ⟨ih0, ih1⟩ := strongroomref17_Mark.mono_l k
  unfold strongroomref17_Mark.f
  repeat' first
      | (with_reducible exact ih0 _ _ _)
      | (with_reducible exact ih1 _ _ _ _)
      | (with_reducible exact strongroomref04_Sum.mono _ _)
      | (with_reducible exact LeO.refl _)
      | (with_reducible exact LeO.none _)
      | (with_reducible refine LeO.ite ?_ ?_)
      | (with_reducible refine LeO.bind ?_ (fun _ => ?_))
      | exact ih0 _ _ _
      | exact ih1 _ _ _ _
      | exact strongroomref04_Sum.mono _ _
      | exact LeO.none _
      | refine LeO.ite ?_ ?_
      | refine LeO.bind ?_ (fun _ => ?_)
set_option maxHeartbeats 8000000 in
set_option maxRecDepth 100000 in
theorem strongroomref17_Mark.calls (k : Nat) (a0 : ByteArray) (a1 : Int) (r : Bool) (w : World) (h : strongroomref17_Mark.f k a0 a1 = some r) :
    Calls Try.prog 21 #[.string a0, .int .i64 a1] w fun e w' => e = .returned (.bool r) ∧ Drawn0 w w' := by
  have H : ((strongroomref04_Last.f a0 16).bind fun t109 => ((strongroomref04_Sum.f k t109).bind fun t110 => (strongroomref17_Mark.l0 k a1 ((t110 * 2654435761) % 4294967296) 0))) = some r := h
  clear h
  replace H := Option.bind_eq_some_iff.mp H
  obtain ⟨t109, A30, H⟩ := H
  replace H : ((strongroomref04_Sum.f k t109).bind fun t110 => (strongroomref17_Mark.l0 k a1 ((t110 * 2654435761) % 4294967296) 0)) = some r := H
  have A3 := Aside0.mk A30
  clear A30
  replace H := Option.bind_eq_some_iff.mp H
  obtain ⟨t110, A40, H⟩ := H
  replace H : (strongroomref17_Mark.l0 k a1 ((t110 * 2654435761) % 4294967296) 0) = some r := H
  have A4 := Aside0.mk A40
  clear A40
  have H' := Aside0.mk H
  clear H
  go_enter Try.func21, Try.ntmps21
  go_wp2_with (first | ((with_reducible refine gate_callee (f := 32) rfl ?_); refine goesL_ (some 9) rfl rfl Try.func32 (by kernel_rfl) rfl #[.string a0, .int .i64 16] rfl (by (try simp only [List.map_toArray, List.map_cons, List.map_nil]); first | done | rfl | (simp only [List.length_drop, List.length_take]; rfl)) ?_; (with_reducible refine (strongroomref04_Last.calls a0 16 t109 _ A3.out).mono ?_); rintro e w' ⟨rfl, ⟨nd, rfl⟩⟩; refine ⟨_, rfl, ?_⟩) | ((with_reducible refine gate_callee (f := 31) rfl ?_); refine goesL_ (some 10) rfl rfl Try.func31 (by kernel_rfl) rfl #[.string t109] rfl (by (try simp only [List.map_toArray, List.map_cons, List.map_nil]); first | done | rfl | (simp only [List.length_drop, List.length_take]; rfl)) ?_; (with_reducible refine (strongroomref04_Sum.calls k t109 t110 _ A4.out).mono ?_); rintro e w' ⟨rfl, ⟨nd, rfl⟩⟩; refine ⟨_, rfl, ?_⟩))
  go_loopg [6, 7] k (fun kq v6 v7 w' => ∃ (x6_1 : Int) (x7_1 : Int), v6 = .int .u32 x6_1 ∧ v7 = .int .i64 x7_1 ∧ Aside0 (strongroomref17_Mark.l0 kq a1 x6_1 x7_1 = some r) ∧ Aside0 (kq ≤ k) ∧ Drawn0 w w')
  case atStart => exact ⟨((t110 * 2654435761) % 4294967296), (0), (by first | rfl | (simp; done) | (simp [*]; done)), (by first | rfl | (simp; done) | (simp [*]; done)), H', ⟨Nat.le_refl _⟩, by repeat (first | exact Drawn0.refl _ | apply Drawn0.step)⟩
  case round =>
    clear H'
    try clear c2
    try clear p2
    try clear c3
    obtain ⟨x6_1, x7_1, rfl, rfl, HA, HK1, ⟨m1, rfl⟩⟩ := hrel
    cases gk with
    | zero => exact absurd HA.out (by simp [strongroomref17_Mark.l0])
    | succ k1 =>
      have H := HA.out
      clear HA
      simp only [strongroomref17_Mark.l0] at H
      have HC5 := Aside0.mk H
      clear H
      go_upto_region 4 with (fail)
      go_cut [19] (fun v19 wc => ∃ (kq : Nat) (x19_4 : Bool), v19 = .bool x19_4 ∧ Aside0 (strongroomref17_Mark.j1 kq a1 x6_1 x7_1 x19_4 = some r) ∧ Aside0 (kq ≤ k1) ∧ Drawn0 w wc)
      case first =>
        have H := HC5.out
        clear HC5
        by_cases c6 : x7_1 < a1
        · rw [if_pos c6] at H
          have c6b0 : decide (x7_1 < a1) = true := decide_eq_true c6
          clear c6
          (first | rw [c6b0] | (simp only [i64_w, i32_w]; rw [c6b0]) | skip)
          have H' := Aside0.mk H
          clear H
          go_wp2
          go_meet
          case rel => exact ⟨_, (decide (x7_1 < 32)), (by first | rfl | (simp; done) | (simp [*]; done)), H', ⟨by have := HK1.out; first | omega | exact Nat.le_refl _⟩, by repeat (first | exact Drawn0.refl _ | apply Drawn0.step)⟩
        · rw [if_neg c6] at H
          have c6b0 : decide (x7_1 < a1) = false := decide_eq_false c6
          clear c6
          (first | rw [c6b0] | (simp only [i64_w, i32_w]; rw [c6b0]) | skip)
          have H' := Aside0.mk H
          clear H
          go_wp2
          go_meet
          case rel => exact ⟨_, (false), (by first | rfl | (simp; done) | (simp [*]; done)), H', ⟨by have := HK1.out; first | omega | exact Nat.le_refl _⟩, by repeat (first | exact Drawn0.refl _ | apply Drawn0.step)⟩
      case rest =>
        clear HC5
        try clear c2
        try clear p2
        try clear c3
        try clear c6
        try clear c6b0
        try clear p2
        obtain ⟨kq, x19_4, rfl, HA, HJ4, ⟨mc4, rfl⟩⟩ := hcut
        cases kq with
        | zero => exact absurd HA.out (by simp [strongroomref17_Mark.j1])
        | succ kj4 =>
          have H := HA.out
          clear HA
          simp only [strongroomref17_Mark.j1] at H
          by_cases c7 : x19_4 = true
          · subst c7
            have H1 : (if x6_1 ≥ 2147483648 then (some false) else (strongroomref17_Mark.l0 kj4 a1 ((x6_1 * 2) % 4294967296) (wrap64 (x7_1 + 1)))) = some r := by rw [if_pos rfl] at H; exact H
            clear H
            have H := H1
            clear H1
            by_cases c8 : x6_1 ≥ 2147483648
            · rw [if_pos c8] at H
              have c8b0 : decide (2147483648 ≤ x6_1) = true := decide_eq_true c8
              clear c8
              obtain rfl := Option.some.inj H
              go_wp2
              go_ret
              exact ⟨by first | rfl | (simp; done) | (simp [*]; done), by repeat (first | exact Drawn0.refl _ | apply Drawn0.step)⟩
            · rw [if_neg c8] at H
              have c8b0 : decide (2147483648 ≤ x6_1) = false := decide_eq_false c8
              clear c8
              have H' := Aside0.mk H
              clear H
              go_wp2
              go_roundg kj4
              case measure => have := HK1.out; have := HJ4.out; omega
              case rel => exact ⟨((x6_1 * 2) % 4294967296), (wrap64 (x7_1 + 1)), (by first | rfl | (simp; done) | (simp [*]; done)), (by first | rfl | (simp; done) | (simp [*]; done)), H', ⟨by have := HK1.out; have := HJ4.out; omega⟩, by repeat (first | exact Drawn0.refl _ | apply Drawn0.step)⟩
          · replace c7 := Bool.eq_false_iff.mpr c7
            subst c7
            have H1 : (some true) = some r := by rw [if_neg (show ¬ (false = true) by decide)] at H; exact H
            clear H
            have H := H1
            clear H1
            obtain rfl := Option.some.inj H
            go_wp2
            go_ret
            exact ⟨by first | rfl | (simp; done) | (simp [*]; done), by repeat (first | exact Drawn0.refl _ | apply Drawn0.step)⟩

end Go.Proofs.Ytaeobiilihklhaa.F

-- F14
namespace Go.Proofs.Ytaeobiilihklhaa.F
open Go.RowKit Go.Proofs.YtaeobiilihklhaaW.PrintWords Go.Proofs.YtaeobiilihklhaaW.PrintLast Go.Proofs.YtaeobiilihklhaaW.PrintMore
attribute [local go_sem] max2_int min2_int max_two min_two max_three min_three max_four min_four   -- for this text's walks alone
set_option linter.unusedVariables false
set_option linter.unusedSimpArgs false

/-! ### strongroomref17_Cut: function 14 -/
def strongroomref17_Cut.l0 : Nat → ByteArray → Int → Int → Int → List ByteArray → Int → Int → Option (List ByteArray)
  | 0, _, _, _, _, _, _, _ => none
  | k + 1, x0, x1, x2, x3, x9, x10, x11 => if x11 ≤ (x0.size : Int) then (if (wrap64 (x11 - 16)) < 0 then (if (wrap64 (x11 - x10)) = x2 then (if 0 ≤ x10 then (if x10 ≤ x11 then (if x9.length < 8796093022208 then (strongroomref17_Cut.l0 k x0 x1 x2 x3 (x9 ++ [x0.extract (x10 : Int).toNat (x11 : Int).toNat]) x11 (wrap64 (x11 + 1))) else (none)) else (none)) else (none)) else (if (wrap64 (x11 - x10)) ≥ x1 then (if 0 ≤ x11 then ((strongroomref17_Mark.f k (x0.extract 0 (x11 : Int).toNat) x3).bind fun t117 => (if t117 = true then (if 0 ≤ x10 then (if x10 ≤ x11 then (if x9.length < 8796093022208 then (strongroomref17_Cut.l0 k x0 x1 x2 x3 (x9 ++ [x0.extract (x10 : Int).toNat (x11 : Int).toNat]) x11 (wrap64 (x11 + 1))) else (none)) else (none)) else (none)) else (strongroomref17_Cut.l0 k x0 x1 x2 x3 x9 x10 (wrap64 (x11 + 1))))) else (none)) else (strongroomref17_Cut.l0 k x0 x1 x2 x3 x9 x10 (wrap64 (x11 + 1))))) else (if (wrap64 (x11 - x10)) = x2 then (if 0 ≤ x10 then (if x10 ≤ x11 then (if x9.length < 8796093022208 then (strongroomref17_Cut.l0 k x0 x1 x2 x3 (x9 ++ [x0.extract (x10 : Int).toNat (x11 : Int).toNat]) x11 (wrap64 (x11 + 1))) else (none)) else (none)) else (none)) else (if (wrap64 (x11 - x10)) ≥ x1 then (if 0 ≤ (wrap64 (x11 - 16)) then (if (wrap64 (x11 - 16)) ≤ x11 then ((strongroomref17_Mark.f k (x0.extract ((wrap64 (x11 - 16)) : Int).toNat (x11 : Int).toNat) x3).bind fun t124 => (if t124 = true then (if 0 ≤ x10 then (if x10 ≤ x11 then (if x9.length < 8796093022208 then (strongroomref17_Cut.l0 k x0 x1 x2 x3 (x9 ++ [x0.extract (x10 : Int).toNat (x11 : Int).toNat]) x11 (wrap64 (x11 + 1))) else (none)) else (none)) else (none)) else (strongroomref17_Cut.l0 k x0 x1 x2 x3 x9 x10 (wrap64 (x11 + 1))))) else (none)) else (none)) else (strongroomref17_Cut.l0 k x0 x1 x2 x3 x9 x10 (wrap64 (x11 + 1)))))) else (if x10 < (x0.size : Int) then (if 0 ≤ x10 then (if x10 ≤ (x0.size : Int) then (if x9.length < 8796093022208 then (some (x9 ++ [x0.extract (x10 : Int).toNat x0.size])) else (none)) else (none)) else (none)) else (some x9))
def strongroomref17_Cut.f (k : Nat) (a0 : ByteArray) (a1 : Int) (a2 : Int) (a3 : Int) : Option (List ByteArray) := strongroomref17_Cut.l0 k a0 a1 a2 a3 ([] : List ByteArray) 0 1
theorem strongroomref17_Cut.mono_l : ∀ k, (∀ y0 y1 y2 y3 y4 y5 y6, LeO (strongroomref17_Cut.l0 k y0 y1 y2 y3 y4 y5 y6) (strongroomref17_Cut.l0 (k + 1) y0 y1 y2 y3 y4 y5 y6))
  | 0 => fun _ _ _ _ _ _ _ r h => by simp [strongroomref17_Cut.l0] at h
  | k + 1 => by
    have ih0 := strongroomref17_Cut.mono_l k
    · intro y0 y1 y2 y3 y4 y5 y6
      unfold strongroomref17_Cut.l0
      repeat' first
      | (with_reducible exact ih0 _ _ _ _ _ _ _)
      | (with_reducible exact strongroomref17_Mark.mono _ _ _)
      | (with_reducible exact LeO.refl _)
      | (with_reducible exact LeO.none _)
      | (with_reducible refine LeO.ite ?_ ?_)
      | (with_reducible refine LeO.bind ?_ (fun _ => ?_))
      | exact ih0 _ _ _ _ _ _ _
      | exact strongroomref17_Mark.mono _ _ _
      | exact LeO.none _
      | refine LeO.ite ?_ ?_
      | refine LeO.bind ?_ (fun _ => ?_)
theorem strongroomref17_Cut.mono : ∀ a0 a1 a2 a3 k, LeO (strongroomref17_Cut.f k a0 a1 a2 a3) (strongroomref17_Cut.f (k + 1) a0 a1 a2 a3) := by
  intro a0 a1 a2 a3 k
  have ih0 := strongroomref17_Cut.mono_l k
  unfold strongroomref17_Cut.f
  repeat' first
      | (with_reducible exact ih0 _ _ _ _ _ _ _)
      | (with_reducible exact strongroomref17_Mark.mono _ _ _)
      | (with_reducible exact LeO.refl _)
      | (with_reducible exact LeO.none _)
      | (with_reducible refine LeO.ite ?_ ?_)
      | (with_reducible refine LeO.bind ?_ (fun _ => ?_))
      | exact ih0 _ _ _ _ _ _ _
      | exact strongroomref17_Mark.mono _ _ _
      | exact LeO.none _
      | refine LeO.ite ?_ ?_
      | refine LeO.bind ?_ (fun _ => ?_)
set_option maxHeartbeats 8000000 in
set_option maxRecDepth 100000 in
theorem strongroomref17_Cut.calls (k : Nat) (a0 : ByteArray) (a1 : Int) (a2 : Int) (a3 : Int) (r : List ByteArray) (w : World) (h : strongroomref17_Cut.f k a0 a1 a2 a3 = some r) :
    Calls Try.prog 14 #[.string a0, .int .i64 a1, .int .i64 a2, .int .i64 a3] w fun e w' => ∃ v0_ : Value, e = .returned (v0_) ∧ Kd.R Kd.string 9 w' w.heap.size (fun _ => True) v0_ r ∧ Below w.heap.size w w' := by
  have HB := Aside0.mk (Below.refl w.heap.size w)
  have H : (strongroomref17_Cut.l0 k a0 a1 a2 a3 ([] : List ByteArray) 0 1) = some r := h
  clear h
  have H' := Aside0.mk H
  clear H
  go_enter Try.func14, Try.ntmps14
  go_wp2
  go_loopg [9, 10, 11] k (fun kq v9 v10 v11 w' => ∃ (x9_1 : List ByteArray) (x10_1 : Int) (x11_1 : Int), v10 = .int .i64 x10_1 ∧ v11 = .int .i64 x11_1 ∧ Aside0 (strongroomref17_Cut.l0 kq a0 a1 a2 a3 x9_1 x10_1 x11_1 = some r) ∧ Aside0 (kq ≤ k) ∧ Aside0 (Kd.R Kd.string 9 w' w.heap.size (fun _ => True) v9 x9_1) ∧ Aside0 (Below w.heap.size w w'))
  case atStart => exact ⟨(([] : List ByteArray)), (0), (1), (by first | rfl | (simp; done) | (simp [*]; done)), (by first | rfl | (simp; done) | (simp [*]; done)), H', ⟨Nat.le_refl _⟩, ⟨by first | exact Kd.R_nil _ _ _ _ _ | exact Kd.N_nil _ _ _ _ _ | exact Kd.V_nil _ _ _ _ _ | exact Kd.Q_nil _ _ _ _ _ | exact Kd.S_nil _ _ _ _ _⟩, ⟨by repeat (first | (with_reducible first | exact HB.out | apply below_alloc | apply pw_below_drewN | apply below_drew1) | exact HB.out)⟩⟩
  case round =>
    clear H'
    try clear c1
    try clear p2
    obtain ⟨x9_1, x10_1, x11_1, rfl, rfl, HA, HK1, HO_9, HB⟩ := hrel
    cases gk with
    | zero => exact absurd HA.out (by simp [strongroomref17_Cut.l0])
    | succ k1 =>
      have H := HA.out
      clear HA
      simp only [strongroomref17_Cut.l0] at H
      by_cases c5 : x11_1 ≤ (a0.size : Int)
      · rw [if_pos c5] at H
        have c5b0 : decide (x11_1 ≤ (a0.size : Int)) = true := decide_eq_true c5
        clear c5
        by_cases c6 : (wrap64 (x11_1 - 16)) < 0
        · rw [if_pos c6] at H
          have c6b0 : decide ((wrap64 (x11_1 - 16)) < 0) = true := decide_eq_true c6
          clear c6
          by_cases c7 : (wrap64 (x11_1 - x10_1)) = a2
          · rw [if_pos c7] at H
            have c7b0 : ((wrap64 (x11_1 - x10_1)) == a2) = true := beq_iff_eq.mpr c7
            have c7b1 : ((wrap64 (x11_1 - x10_1)) != a2) = false := bne_eq_false_iff_eq.mpr c7
            clear c7
            by_cases c8 : 0 ≤ x10_1
            · rw [if_pos c8] at H
              have c8b0 := eq_true c8
              have c8b1 : decide (0 ≤ x10_1) = true := decide_eq_true c8
              clear c8
              by_cases c9 : x10_1 ≤ x11_1
              · rw [if_pos c9] at H
                have c9b0 := eq_true c9
                have c9b1 : decide (x10_1 ≤ x11_1) = true := decide_eq_true c9
                clear c9
                have c10b0 := eq_true (of_decide_eq_true (by first | (with_reducible assumption) | assumption) : x11_1 ≤ (a0.size : Int))
                by_cases c11 : x9_1.length < 8796093022208
                · rw [if_pos c11] at H
                  have LMc11 := Aside0.mk c11
                  clear c11
                  obtain ⟨y114, hy114⟩ : ∃ y_ : List ByteArray, y_ = (x9_1 ++ [a0.extract (x10_1 : Int).toNat (x11_1 : Int).toNat]) := ⟨_, rfl⟩
                  replace H : (strongroomref17_Cut.l0 k1 a0 a1 a2 a3 y114 x11_1 (wrap64 (x11_1 + 1))) = some r := by first | (rw [hy114]; with_reducible exact H) | (have H2_ := (Option.bind_some _ _).symm.trans H; rw [hy114]; with_reducible exact H2_) | (have H2_ := (Option.bind_some _ _).symm.trans H; with_reducible exact H2_) | with_reducible exact H | (rw [hy114]; exact H) | exact H
                  have Ny114 := Aside0.mk hy114
                  clear hy114
                  have H' := Aside0.mk H
                  clear H
                  go_wp2_with (first | ((with_reducible refine gate_builtin (b := .append) (xs := #[.tmp 43, .tmp 48]) rfl ?_); at_builtin; refine Kd.R_append Kd.string (w0 := w) w.heap.size rfl (.tmp 43) (.tmp 48) 25 9 (.string ⟨#[]⟩) 16 rfl Try.underlying25 info9 rfl (by decide) (by omega) u9 x9_1 (a0.extract (x10_1 : Int).toNat (x11_1 : Int).toNat) [.string (a0.extract (x10_1 : Int).toNat (x11_1 : Int).toNat)] (fun _ => True) (fun _ => False) rfl rfl ?aP (fun _ hk => hk.elim) ?aF ?aO ?aB ?aS ?aL ?_; (case aP => exact rfl); (case aB => exact (by repeat (first | (with_reducible first | exact HB.out | apply below_alloc | apply pw_below_drewN | apply below_drew1) | exact HB.out))); (case aF => exact (fun _ _ => trivial)); (case aO => exact (by (with_reducible repeat (first | apply Kd.R_alloc | apply Kd.R_drewN | apply Kd.R_drew)); exact HO_9.out)); (case aS => exact (below_size (by repeat (first | (with_reducible first | exact HB.out | apply below_alloc | apply pw_below_drewN | apply below_drew1) | exact HB.out)))); (case aL => have := LMc11.out; omega); intro v115 w12 ho hb hg hat; rw [← Ny114.out] at ho; have n0_ := Aside0.mk (hb); have n1_ := Aside0.mk (ho); clear HB; clear HO_9; have HB := n0_; have HO116 := n1_; clear n0_ n1_; clear ho hb hg hat))
                  go_roundg k1
                  case measure => have := HK1.out; omega
                  case rel => exact ⟨(y114), (x11_1), (wrap64 (x11_1 + 1)), (by first | rfl | (simp; done) | (simp [*]; done)), (by first | rfl | (simp; done) | (simp [*]; done)), H', ⟨by have := HK1.out; omega⟩, ⟨by (with_reducible repeat (first | apply Kd.R_alloc | apply Kd.R_drewN | apply Kd.R_drew)); exact HO116.out⟩, ⟨by repeat (first | (with_reducible first | exact HB.out | apply below_alloc | apply pw_below_drewN | apply below_drew1) | exact HB.out)⟩⟩
                · rw [if_neg c11] at H
                  exact absurd H (by simp)
              · rw [if_neg c9] at H
                exact absurd H (by simp)
            · rw [if_neg c8] at H
              exact absurd H (by simp)
          · rw [if_neg c7] at H
            have c7b0 : ((wrap64 (x11_1 - x10_1)) == a2) = false := beq_eq_false_iff_ne.mpr c7
            have c7b1 : ((wrap64 (x11_1 - x10_1)) != a2) = true := bne_iff_ne.mpr c7
            by_cases c13 : (wrap64 (x11_1 - x10_1)) ≥ a1
            · rw [if_pos c13] at H
              have c13b0 : decide (a1 ≤ (wrap64 (x11_1 - x10_1))) = true := decide_eq_true c13
              clear c13
              by_cases c14 : 0 ≤ x11_1
              · rw [if_pos c14] at H
                have c14b0 := eq_true c14
                have c14b1 : decide (0 ≤ x11_1) = true := decide_eq_true c14
                clear c14
                have c15b0 := eq_true (of_decide_eq_true (by first | (with_reducible assumption) | assumption) : x11_1 ≤ (a0.size : Int))
                replace H := Option.bind_eq_some_iff.mp H
                obtain ⟨t117, A160, H⟩ := H
                replace H : (if t117 = true then (if 0 ≤ x10_1 then (if x10_1 ≤ x11_1 then (if x9_1.length < 8796093022208 then (strongroomref17_Cut.l0 k1 a0 a1 a2 a3 (x9_1 ++ [a0.extract (x10_1 : Int).toNat (x11_1 : Int).toNat]) x11_1 (wrap64 (x11_1 + 1))) else (none)) else (none)) else (none)) else (strongroomref17_Cut.l0 k1 a0 a1 a2 a3 x9_1 x10_1 (wrap64 (x11_1 + 1)))) = some r := H
                have A16 := Aside0.mk A160
                clear A160
                by_cases c17 : t117 = true
                · subst c17
                  have H1 : (if 0 ≤ x10_1 then (if x10_1 ≤ x11_1 then (if x9_1.length < 8796093022208 then (strongroomref17_Cut.l0 k1 a0 a1 a2 a3 (x9_1 ++ [a0.extract (x10_1 : Int).toNat (x11_1 : Int).toNat]) x11_1 (wrap64 (x11_1 + 1))) else (none)) else (none)) else (none)) = some r := by rw [if_pos rfl] at H; exact H
                  clear H
                  have H := H1
                  clear H1
                  by_cases c18 : 0 ≤ x10_1
                  · rw [if_pos c18] at H
                    have c18b0 := eq_true c18
                    have c18b1 : decide (0 ≤ x10_1) = true := decide_eq_true c18
                    clear c18
                    by_cases c19 : x10_1 ≤ x11_1
                    · rw [if_pos c19] at H
                      have c19b0 := eq_true c19
                      have c19b1 : decide (x10_1 ≤ x11_1) = true := decide_eq_true c19
                      clear c19
                      have c20b0 := eq_true (of_decide_eq_true (by first | (with_reducible assumption) | assumption) : x11_1 ≤ (a0.size : Int))
                      by_cases c21 : x9_1.length < 8796093022208
                      · rw [if_pos c21] at H
                        have LMc21 := Aside0.mk c21
                        clear c21
                        obtain ⟨y118, hy118⟩ : ∃ y_ : List ByteArray, y_ = (x9_1 ++ [a0.extract (x10_1 : Int).toNat (x11_1 : Int).toNat]) := ⟨_, rfl⟩
                        replace H : (strongroomref17_Cut.l0 k1 a0 a1 a2 a3 y118 x11_1 (wrap64 (x11_1 + 1))) = some r := by first | (rw [hy118]; with_reducible exact H) | (have H2_ := (Option.bind_some _ _).symm.trans H; rw [hy118]; with_reducible exact H2_) | (have H2_ := (Option.bind_some _ _).symm.trans H; with_reducible exact H2_) | with_reducible exact H | (rw [hy118]; exact H) | exact H
                        have Ny118 := Aside0.mk hy118
                        clear hy118
                        have H' := Aside0.mk H
                        clear H
                        go_wp2_with (first | (go_at_call 21; (with_reducible refine (strongroomref17_Mark.calls k1 (a0.extract 0 (x11_1 : Int).toNat) a3 true _ A16.out).mono ?_); rintro e w' ⟨rfl, ⟨nd, rfl⟩⟩) | ((with_reducible refine gate_builtin (b := .append) (xs := #[.tmp 43, .tmp 48]) rfl ?_); at_builtin; refine Kd.R_append Kd.string (w0 := w) w.heap.size rfl (.tmp 43) (.tmp 48) 25 9 (.string ⟨#[]⟩) 16 rfl Try.underlying25 info9 rfl (by decide) (by omega) u9 x9_1 (a0.extract (x10_1 : Int).toNat (x11_1 : Int).toNat) [.string (a0.extract (x10_1 : Int).toNat (x11_1 : Int).toNat)] (fun _ => True) (fun _ => False) rfl rfl ?aP (fun _ hk => hk.elim) ?aF ?aO ?aB ?aS ?aL ?_; (case aP => exact rfl); (case aB => exact (by repeat (first | (with_reducible first | exact HB.out | apply below_alloc | apply pw_below_drewN | apply below_drew1) | exact HB.out))); (case aF => exact (fun _ _ => trivial)); (case aO => exact (by (with_reducible repeat (first | apply Kd.R_alloc | apply Kd.R_drewN | apply Kd.R_drew)); exact HO_9.out)); (case aS => exact (below_size (by repeat (first | (with_reducible first | exact HB.out | apply below_alloc | apply pw_below_drewN | apply below_drew1) | exact HB.out)))); (case aL => have := LMc21.out; omega); intro v119 w22 ho hb hg hat; rw [← Ny118.out] at ho; have n0_ := Aside0.mk (hb); have n1_ := Aside0.mk (ho); clear HB; clear HO_9; have HB := n0_; have HO120 := n1_; clear n0_ n1_; clear ho hb hg hat))
                        go_roundg k1
                        case measure => have := HK1.out; omega
                        case rel => exact ⟨(y118), (x11_1), (wrap64 (x11_1 + 1)), (by first | rfl | (simp; done) | (simp [*]; done)), (by first | rfl | (simp; done) | (simp [*]; done)), H', ⟨by have := HK1.out; omega⟩, ⟨by (with_reducible repeat (first | apply Kd.R_alloc | apply Kd.R_drewN | apply Kd.R_drew)); exact HO120.out⟩, ⟨by repeat (first | (with_reducible first | exact HB.out | apply below_alloc | apply pw_below_drewN | apply below_drew1) | exact HB.out)⟩⟩
                      · rw [if_neg c21] at H
                        exact absurd H (by simp)
                    · rw [if_neg c19] at H
                      exact absurd H (by simp)
                  · rw [if_neg c18] at H
                    exact absurd H (by simp)
                · replace c17 := Bool.eq_false_iff.mpr c17
                  subst c17
                  have H1 : (strongroomref17_Cut.l0 k1 a0 a1 a2 a3 x9_1 x10_1 (wrap64 (x11_1 + 1))) = some r := by rw [if_neg (show ¬ (false = true) by decide)] at H; exact H
                  clear H
                  have H := H1
                  clear H1
                  have H' := Aside0.mk H
                  clear H
                  go_wp2_with (first | (go_at_call 21; (with_reducible refine (strongroomref17_Mark.calls k1 (a0.extract 0 (x11_1 : Int).toNat) a3 false _ A16.out).mono ?_); rintro e w' ⟨rfl, ⟨nd, rfl⟩⟩))
                  go_roundg k1
                  case measure => have := HK1.out; omega
                  case rel => exact ⟨(x9_1), (x10_1), (wrap64 (x11_1 + 1)), (by first | rfl | (simp; done) | (simp [*]; done)), (by first | rfl | (simp; done) | (simp [*]; done)), H', ⟨by have := HK1.out; omega⟩, ⟨by (with_reducible repeat (first | apply Kd.R_alloc | apply Kd.R_drewN | apply Kd.R_drew)); exact HO_9.out⟩, ⟨by repeat (first | (with_reducible first | exact HB.out | apply below_alloc | apply pw_below_drewN | apply below_drew1) | exact HB.out)⟩⟩
              · rw [if_neg c14] at H
                exact absurd H (by simp)
            · rw [if_neg c13] at H
              have c13b0 : decide (a1 ≤ (wrap64 (x11_1 - x10_1))) = false := decide_eq_false c13
              clear c13
              have H' := Aside0.mk H
              clear H
              go_wp2
              go_roundg k1
              case measure => have := HK1.out; omega
              case rel => exact ⟨(x9_1), (x10_1), (wrap64 (x11_1 + 1)), (by first | rfl | (simp; done) | (simp [*]; done)), (by first | rfl | (simp; done) | (simp [*]; done)), H', ⟨by have := HK1.out; omega⟩, ⟨by (with_reducible repeat (first | apply Kd.R_alloc | apply Kd.R_drewN | apply Kd.R_drew)); exact HO_9.out⟩, ⟨by repeat (first | (with_reducible first | exact HB.out | apply below_alloc | apply pw_below_drewN | apply below_drew1) | exact HB.out)⟩⟩
        · rw [if_neg c6] at H
          have c6b0 : decide ((wrap64 (x11_1 - 16)) < 0) = false := decide_eq_false c6
          clear c6
          by_cases c23 : (wrap64 (x11_1 - x10_1)) = a2
          · rw [if_pos c23] at H
            have c23b0 : ((wrap64 (x11_1 - x10_1)) == a2) = true := beq_iff_eq.mpr c23
            have c23b1 : ((wrap64 (x11_1 - x10_1)) != a2) = false := bne_eq_false_iff_eq.mpr c23
            clear c23
            by_cases c24 : 0 ≤ x10_1
            · rw [if_pos c24] at H
              have c24b0 := eq_true c24
              have c24b1 : decide (0 ≤ x10_1) = true := decide_eq_true c24
              clear c24
              by_cases c25 : x10_1 ≤ x11_1
              · rw [if_pos c25] at H
                have c25b0 := eq_true c25
                have c25b1 : decide (x10_1 ≤ x11_1) = true := decide_eq_true c25
                clear c25
                have c26b0 := eq_true (of_decide_eq_true (by first | (with_reducible assumption) | assumption) : x11_1 ≤ (a0.size : Int))
                by_cases c27 : x9_1.length < 8796093022208
                · rw [if_pos c27] at H
                  have LMc27 := Aside0.mk c27
                  clear c27
                  obtain ⟨y121, hy121⟩ : ∃ y_ : List ByteArray, y_ = (x9_1 ++ [a0.extract (x10_1 : Int).toNat (x11_1 : Int).toNat]) := ⟨_, rfl⟩
                  replace H : (strongroomref17_Cut.l0 k1 a0 a1 a2 a3 y121 x11_1 (wrap64 (x11_1 + 1))) = some r := by first | (rw [hy121]; with_reducible exact H) | (have H2_ := (Option.bind_some _ _).symm.trans H; rw [hy121]; with_reducible exact H2_) | (have H2_ := (Option.bind_some _ _).symm.trans H; with_reducible exact H2_) | with_reducible exact H | (rw [hy121]; exact H) | exact H
                  have Ny121 := Aside0.mk hy121
                  clear hy121
                  have H' := Aside0.mk H
                  clear H
                  go_wp2_with (first | ((with_reducible refine gate_builtin (b := .append) (xs := #[.tmp 43, .tmp 48]) rfl ?_); at_builtin; refine Kd.R_append Kd.string (w0 := w) w.heap.size rfl (.tmp 43) (.tmp 48) 25 9 (.string ⟨#[]⟩) 16 rfl Try.underlying25 info9 rfl (by decide) (by omega) u9 x9_1 (a0.extract (x10_1 : Int).toNat (x11_1 : Int).toNat) [.string (a0.extract (x10_1 : Int).toNat (x11_1 : Int).toNat)] (fun _ => True) (fun _ => False) rfl rfl ?aP (fun _ hk => hk.elim) ?aF ?aO ?aB ?aS ?aL ?_; (case aP => exact rfl); (case aB => exact (by repeat (first | (with_reducible first | exact HB.out | apply below_alloc | apply pw_below_drewN | apply below_drew1) | exact HB.out))); (case aF => exact (fun _ _ => trivial)); (case aO => exact (by (with_reducible repeat (first | apply Kd.R_alloc | apply Kd.R_drewN | apply Kd.R_drew)); exact HO_9.out)); (case aS => exact (below_size (by repeat (first | (with_reducible first | exact HB.out | apply below_alloc | apply pw_below_drewN | apply below_drew1) | exact HB.out)))); (case aL => have := LMc27.out; omega); intro v122 w28 ho hb hg hat; rw [← Ny121.out] at ho; have n0_ := Aside0.mk (hb); have n1_ := Aside0.mk (ho); clear HB; clear HO_9; have HB := n0_; have HO123 := n1_; clear n0_ n1_; clear ho hb hg hat))
                  go_roundg k1
                  case measure => have := HK1.out; omega
                  case rel => exact ⟨(y121), (x11_1), (wrap64 (x11_1 + 1)), (by first | rfl | (simp; done) | (simp [*]; done)), (by first | rfl | (simp; done) | (simp [*]; done)), H', ⟨by have := HK1.out; omega⟩, ⟨by (with_reducible repeat (first | apply Kd.R_alloc | apply Kd.R_drewN | apply Kd.R_drew)); exact HO123.out⟩, ⟨by repeat (first | (with_reducible first | exact HB.out | apply below_alloc | apply pw_below_drewN | apply below_drew1) | exact HB.out)⟩⟩
                · rw [if_neg c27] at H
                  exact absurd H (by simp)
              · rw [if_neg c25] at H
                exact absurd H (by simp)
            · rw [if_neg c24] at H
              exact absurd H (by simp)
          · rw [if_neg c23] at H
            have c23b0 : ((wrap64 (x11_1 - x10_1)) == a2) = false := beq_eq_false_iff_ne.mpr c23
            have c23b1 : ((wrap64 (x11_1 - x10_1)) != a2) = true := bne_iff_ne.mpr c23
            by_cases c29 : (wrap64 (x11_1 - x10_1)) ≥ a1
            · rw [if_pos c29] at H
              have c29b0 : decide (a1 ≤ (wrap64 (x11_1 - x10_1))) = true := decide_eq_true c29
              clear c29
              obtain ⟨ji30, hji30⟩ : ∃ j_ : Int, (wrap64 (x11_1 - 16)) = j_ := ⟨_, rfl⟩
              replace H : (if 0 ≤ (ji30) then (if (ji30) ≤ x11_1 then ((strongroomref17_Mark.f k1 (a0.extract ((ji30) : Int).toNat (x11_1 : Int).toNat) a3).bind fun t124 => (if t124 = true then (if 0 ≤ x10_1 then (if x10_1 ≤ x11_1 then (if x9_1.length < 8796093022208 then (strongroomref17_Cut.l0 k1 a0 a1 a2 a3 (x9_1 ++ [a0.extract (x10_1 : Int).toNat (x11_1 : Int).toNat]) x11_1 (wrap64 (x11_1 + 1))) else (none)) else (none)) else (none)) else (strongroomref17_Cut.l0 k1 a0 a1 a2 a3 x9_1 x10_1 (wrap64 (x11_1 + 1))))) else (none)) else (none)) = some r := by first | (rw [hji30] at H; exact H) | (simp only [hji30] at H ⊢; exact H)
              (try rw [hji30] at c6b0)
              have hji30w : (IntKind.i64.wrap (x11_1 - 16)) = ji30 := (i64_w _).trans hji30
              by_cases c31 : 0 ≤ (ji30)
              · rw [if_pos c31] at H
                have c31b0 := eq_true c31
                have c31b1 : decide (0 ≤ (ji30)) = true := decide_eq_true c31
                clear c31
                by_cases c32 : (ji30) ≤ x11_1
                · rw [if_pos c32] at H
                  have c32b0 := eq_true c32
                  have c32b1 : decide ((ji30) ≤ x11_1) = true := decide_eq_true c32
                  clear c32
                  have c33b0 := eq_true (of_decide_eq_true (by first | (with_reducible assumption) | assumption) : x11_1 ≤ (a0.size : Int))
                  replace H := Option.bind_eq_some_iff.mp H
                  obtain ⟨t124, A340, H⟩ := H
                  replace H : (if t124 = true then (if 0 ≤ x10_1 then (if x10_1 ≤ x11_1 then (if x9_1.length < 8796093022208 then (strongroomref17_Cut.l0 k1 a0 a1 a2 a3 (x9_1 ++ [a0.extract (x10_1 : Int).toNat (x11_1 : Int).toNat]) x11_1 (wrap64 (x11_1 + 1))) else (none)) else (none)) else (none)) else (strongroomref17_Cut.l0 k1 a0 a1 a2 a3 x9_1 x10_1 (wrap64 (x11_1 + 1)))) = some r := H
                  have A34 := Aside0.mk A340
                  clear A340
                  by_cases c35 : t124 = true
                  · subst c35
                    have H1 : (if 0 ≤ x10_1 then (if x10_1 ≤ x11_1 then (if x9_1.length < 8796093022208 then (strongroomref17_Cut.l0 k1 a0 a1 a2 a3 (x9_1 ++ [a0.extract (x10_1 : Int).toNat (x11_1 : Int).toNat]) x11_1 (wrap64 (x11_1 + 1))) else (none)) else (none)) else (none)) = some r := by rw [if_pos rfl] at H; exact H
                    clear H
                    have H := H1
                    clear H1
                    by_cases c36 : 0 ≤ x10_1
                    · rw [if_pos c36] at H
                      have c36b0 := eq_true c36
                      have c36b1 : decide (0 ≤ x10_1) = true := decide_eq_true c36
                      clear c36
                      by_cases c37 : x10_1 ≤ x11_1
                      · rw [if_pos c37] at H
                        have c37b0 := eq_true c37
                        have c37b1 : decide (x10_1 ≤ x11_1) = true := decide_eq_true c37
                        clear c37
                        have c38b0 := eq_true (of_decide_eq_true (by first | (with_reducible assumption) | assumption) : x11_1 ≤ (a0.size : Int))
                        by_cases c39 : x9_1.length < 8796093022208
                        · rw [if_pos c39] at H
                          have LMc39 := Aside0.mk c39
                          clear c39
                          obtain ⟨y125, hy125⟩ : ∃ y_ : List ByteArray, y_ = (x9_1 ++ [a0.extract (x10_1 : Int).toNat (x11_1 : Int).toNat]) := ⟨_, rfl⟩
                          replace H : (strongroomref17_Cut.l0 k1 a0 a1 a2 a3 y125 x11_1 (wrap64 (x11_1 + 1))) = some r := by first | (rw [hy125]; with_reducible exact H) | (have H2_ := (Option.bind_some _ _).symm.trans H; rw [hy125]; with_reducible exact H2_) | (have H2_ := (Option.bind_some _ _).symm.trans H; with_reducible exact H2_) | with_reducible exact H | (rw [hy125]; exact H) | exact H
                          have Ny125 := Aside0.mk hy125
                          clear hy125
                          have H' := Aside0.mk H
                          clear H
                          go_wp2_with (first | (go_at_call 21; (with_reducible refine (strongroomref17_Mark.calls k1 (a0.extract ((ji30) : Int).toNat (x11_1 : Int).toNat) a3 true _ A34.out).mono ?_); rintro e w' ⟨rfl, ⟨nd, rfl⟩⟩) | ((with_reducible refine gate_builtin (b := .append) (xs := #[.tmp 43, .tmp 48]) rfl ?_); at_builtin; refine Kd.R_append Kd.string (w0 := w) w.heap.size rfl (.tmp 43) (.tmp 48) 25 9 (.string ⟨#[]⟩) 16 rfl Try.underlying25 info9 rfl (by decide) (by omega) u9 x9_1 (a0.extract (x10_1 : Int).toNat (x11_1 : Int).toNat) [.string (a0.extract (x10_1 : Int).toNat (x11_1 : Int).toNat)] (fun _ => True) (fun _ => False) rfl rfl ?aP (fun _ hk => hk.elim) ?aF ?aO ?aB ?aS ?aL ?_; (case aP => exact rfl); (case aB => exact (by repeat (first | (with_reducible first | exact HB.out | apply below_alloc | apply pw_below_drewN | apply below_drew1) | exact HB.out))); (case aF => exact (fun _ _ => trivial)); (case aO => exact (by (with_reducible repeat (first | apply Kd.R_alloc | apply Kd.R_drewN | apply Kd.R_drew)); exact HO_9.out)); (case aS => exact (below_size (by repeat (first | (with_reducible first | exact HB.out | apply below_alloc | apply pw_below_drewN | apply below_drew1) | exact HB.out)))); (case aL => have := LMc39.out; omega); intro v126 w40 ho hb hg hat; rw [← Ny125.out] at ho; have n0_ := Aside0.mk (hb); have n1_ := Aside0.mk (ho); clear HB; clear HO_9; have HB := n0_; have HO127 := n1_; clear n0_ n1_; clear ho hb hg hat))
                          go_roundg k1
                          case measure => have := HK1.out; omega
                          case rel => exact ⟨(y125), (x11_1), (wrap64 (x11_1 + 1)), (by first | rfl | (simp; done) | (simp [*]; done)), (by first | rfl | (simp; done) | (simp [*]; done)), H', ⟨by have := HK1.out; omega⟩, ⟨by (with_reducible repeat (first | apply Kd.R_alloc | apply Kd.R_drewN | apply Kd.R_drew)); exact HO127.out⟩, ⟨by repeat (first | (with_reducible first | exact HB.out | apply below_alloc | apply pw_below_drewN | apply below_drew1) | exact HB.out)⟩⟩
                        · rw [if_neg c39] at H
                          exact absurd H (by simp)
                      · rw [if_neg c37] at H
                        exact absurd H (by simp)
                    · rw [if_neg c36] at H
                      exact absurd H (by simp)
                  · replace c35 := Bool.eq_false_iff.mpr c35
                    subst c35
                    have H1 : (strongroomref17_Cut.l0 k1 a0 a1 a2 a3 x9_1 x10_1 (wrap64 (x11_1 + 1))) = some r := by rw [if_neg (show ¬ (false = true) by decide)] at H; exact H
                    clear H
                    have H := H1
                    clear H1
                    have H' := Aside0.mk H
                    clear H
                    go_wp2_with (first | (go_at_call 21; (with_reducible refine (strongroomref17_Mark.calls k1 (a0.extract ((ji30) : Int).toNat (x11_1 : Int).toNat) a3 false _ A34.out).mono ?_); rintro e w' ⟨rfl, ⟨nd, rfl⟩⟩))
                    go_roundg k1
                    case measure => have := HK1.out; omega
                    case rel => exact ⟨(x9_1), (x10_1), (wrap64 (x11_1 + 1)), (by first | rfl | (simp; done) | (simp [*]; done)), (by first | rfl | (simp; done) | (simp [*]; done)), H', ⟨by have := HK1.out; omega⟩, ⟨by (with_reducible repeat (first | apply Kd.R_alloc | apply Kd.R_drewN | apply Kd.R_drew)); exact HO_9.out⟩, ⟨by repeat (first | (with_reducible first | exact HB.out | apply below_alloc | apply pw_below_drewN | apply below_drew1) | exact HB.out)⟩⟩
                · rw [if_neg c32] at H
                  exact absurd H (by simp)
              · rw [if_neg c31] at H
                exact absurd H (by simp)
            · rw [if_neg c29] at H
              have c29b0 : decide (a1 ≤ (wrap64 (x11_1 - x10_1))) = false := decide_eq_false c29
              clear c29
              have H' := Aside0.mk H
              clear H
              go_wp2
              go_roundg k1
              case measure => have := HK1.out; omega
              case rel => exact ⟨(x9_1), (x10_1), (wrap64 (x11_1 + 1)), (by first | rfl | (simp; done) | (simp [*]; done)), (by first | rfl | (simp; done) | (simp [*]; done)), H', ⟨by have := HK1.out; omega⟩, ⟨by (with_reducible repeat (first | apply Kd.R_alloc | apply Kd.R_drewN | apply Kd.R_drew)); exact HO_9.out⟩, ⟨by repeat (first | (with_reducible first | exact HB.out | apply below_alloc | apply pw_below_drewN | apply below_drew1) | exact HB.out)⟩⟩
      · rw [if_neg c5] at H
        have c5b0 : decide (x11_1 ≤ (a0.size : Int)) = false := decide_eq_false c5
        clear c5
        by_cases c41 : x10_1 < (a0.size : Int)
        · rw [if_pos c41] at H
          have c41b0 : decide (x10_1 < (a0.size : Int)) = true := decide_eq_true c41
          clear c41
          by_cases c42 : 0 ≤ x10_1
          · rw [if_pos c42] at H
            have c42b0 := eq_true c42
            have c42b1 : decide (0 ≤ x10_1) = true := decide_eq_true c42
            clear c42
            by_cases c43 : x10_1 ≤ (a0.size : Int)
            · rw [if_pos c43] at H
              have c43b0 := eq_true c43
              have c43b1 : decide (x10_1 ≤ (a0.size : Int)) = true := decide_eq_true c43
              clear c43
              by_cases c44 : x9_1.length < 8796093022208
              · rw [if_pos c44] at H
                have LMc44 := Aside0.mk c44
                clear c44
                obtain ⟨y111, hy111⟩ : ∃ y_ : List ByteArray, y_ = (x9_1 ++ [a0.extract (x10_1 : Int).toNat a0.size]) := ⟨_, rfl⟩
                replace H : (some y111) = some r := by first | (rw [hy111]; with_reducible exact H) | (have H2_ := (Option.bind_some _ _).symm.trans H; rw [hy111]; with_reducible exact H2_) | (have H2_ := (Option.bind_some _ _).symm.trans H; with_reducible exact H2_) | with_reducible exact H | (rw [hy111]; exact H) | exact H
                have Ny111 := Aside0.mk hy111
                clear hy111
                obtain rfl := Option.some.inj H
                go_wp2_with (first | ((with_reducible refine gate_builtin (b := .append) (xs := #[.tmp 55, .tmp 59]) rfl ?_); at_builtin; refine Kd.R_append Kd.string (w0 := w) w.heap.size rfl (.tmp 55) (.tmp 59) 25 9 (.string ⟨#[]⟩) 16 rfl Try.underlying25 info9 rfl (by decide) (by omega) u9 x9_1 (a0.extract (x10_1 : Int).toNat a0.size) [.string (a0.extract (x10_1 : Int).toNat a0.size)] (fun _ => True) (fun _ => False) rfl rfl ?aP (fun _ hk => hk.elim) ?aF ?aO ?aB ?aS ?aL ?_; (case aP => exact rfl); (case aB => exact (by repeat (first | (with_reducible first | exact HB.out | apply below_alloc | apply pw_below_drewN | apply below_drew1) | exact HB.out))); (case aF => exact (fun _ _ => trivial)); (case aO => exact (by (with_reducible repeat (first | apply Kd.R_alloc | apply Kd.R_drewN | apply Kd.R_drew)); exact HO_9.out)); (case aS => exact (below_size (by repeat (first | (with_reducible first | exact HB.out | apply below_alloc | apply pw_below_drewN | apply below_drew1) | exact HB.out)))); (case aL => have := LMc44.out; omega); intro v112 w45 ho hb hg hat; rw [← Ny111.out] at ho; have n0_ := Aside0.mk (hb); have n1_ := Aside0.mk (ho); clear HB; clear HO_9; have HB := n0_; have HO113 := n1_; clear n0_ n1_; clear ho hb hg hat))
                go_ret
                exact ⟨_, by first | rfl | (simp [errW_none, errW_some] <;> rfl) | (simp [*, errW_none, errW_some] <;> rfl), by (with_reducible repeat (first | apply Kd.R_alloc | apply Kd.R_drewN | apply Kd.R_drew)); exact HO113.out, by repeat (first | (with_reducible first | exact HB.out | apply below_alloc | apply pw_below_drewN | apply below_drew1) | exact HB.out)⟩
              · rw [if_neg c44] at H
                exact absurd H (by simp)
            · rw [if_neg c43] at H
              exact absurd H (by simp)
          · rw [if_neg c42] at H
            exact absurd H (by simp)
        · rw [if_neg c41] at H
          have c41b0 : decide (x10_1 < (a0.size : Int)) = false := decide_eq_false c41
          clear c41
          obtain rfl := Option.some.inj H
          go_wp2
          go_ret
          exact ⟨_, by first | rfl | (simp [errW_none, errW_some] <;> rfl) | (simp [*, errW_none, errW_some] <;> rfl), by (with_reducible repeat (first | apply Kd.R_alloc | apply Kd.R_drewN | apply Kd.R_drew)); exact HO_9.out, by repeat (first | (with_reducible first | exact HB.out | apply below_alloc | apply pw_below_drewN | apply below_drew1) | exact HB.out)⟩

-- NOT PRINTED: function 3 (strongroomlaw17_ChunkCuts)

-- NOT PRINTED: function 4 (strongroomlaw17_ChunkWhole)

end Go.Proofs.Ytaeobiilihklhaa.F

-- F20
namespace Go.Proofs.Ytaeobiilihklhaa.F
open Go.RowKit Go.Proofs.YtaeobiilihklhaaW.PrintWords Go.Proofs.YtaeobiilihklhaaW.PrintLast Go.Proofs.YtaeobiilihklhaaW.PrintMore
attribute [local go_sem] max2_int min2_int max_two min_two max_three min_three max_four min_four   -- for this text's walks alone
set_option linter.unusedVariables false
set_option linter.unusedSimpArgs false

/-! ### chunk_Mark: function 20 -/
def chunk_Mark.f (k : Nat) (l0 : List Int) (a1 : Int) : Option (Bool) := if 0 ≤ (mx 0 (wrap64 ((l0.length : Int) - 16))) then (if (mx 0 (wrap64 ((l0.length : Int) - 16))) ≤ (l0.length : Int) then ((roll_Sum.f k (l0.drop ((mx 0 (wrap64 ((l0.length : Int) - 16))) : Int).toNat)).bind fun t139 => ((chunk_marked.f t139 a1).bind fun t140 => (some t140))) else (none)) else (none)
theorem chunk_Mark.mono : ∀ a0 a1 k, LeO (chunk_Mark.f k a0 a1) (chunk_Mark.f (k + 1) a0 a1) := by
  intro a0 a1 k
  unfold chunk_Mark.f
  repeat' first
      | (with_reducible exact roll_Sum.mono _ _)
      | (with_reducible exact LeO.refl _)
      | (with_reducible exact LeO.none _)
      | (with_reducible refine LeO.ite ?_ ?_)
      | (with_reducible refine LeO.bind ?_ (fun _ => ?_))
      | exact roll_Sum.mono _ _
      | exact LeO.none _
      | refine LeO.ite ?_ ?_
      | refine LeO.bind ?_ (fun _ => ?_)
set_option maxHeartbeats 8000000 in
set_option maxRecDepth 100000 in
theorem chunk_Mark.calls (k : Nat) (A0 : Option Addr) (c0 : Nat) (l0 : List Int) (a1 : Int) (r : Bool) (w : World) (hr0 : Kd.C (Kd.int .u8) w A0 l0.length l0) (hc0 : l0.length ≤ c0) (h : chunk_Mark.f k l0 a1 = some r) :
    Calls Try.prog 20 #[.slice A0 l0.length c0, .int .i64 a1] w fun e w' => e = .returned (.bool r) ∧ Below w.heap.size w w' := by
  have HR0 := Aside0.mk hr0
  have HC0 := Aside0.mk hc0
  clear hr0 hc0
  have HB := Aside0.mk (Below.refl w.heap.size w)
  have H : (if 0 ≤ (mx 0 (wrap64 ((l0.length : Int) - 16))) then (if (mx 0 (wrap64 ((l0.length : Int) - 16))) ≤ (l0.length : Int) then ((roll_Sum.f k (l0.drop ((mx 0 (wrap64 ((l0.length : Int) - 16))) : Int).toNat)).bind fun t139 => ((chunk_marked.f t139 a1).bind fun t140 => (some t140))) else (none)) else (none)) = some r := h
  clear h
  obtain ⟨ji3, hji3⟩ : ∃ j_ : Int, (mx 0 (wrap64 ((l0.length : Int) - 16))) = j_ := ⟨_, rfl⟩
  replace H : (if 0 ≤ (ji3) then (if (ji3) ≤ (l0.length : Int) then ((roll_Sum.f k (l0.drop ((ji3) : Int).toNat)).bind fun t139 => ((chunk_marked.f t139 a1).bind fun t140 => (some t140))) else (none)) else (none)) = some r := by first | (rw [hji3] at H; exact H) | (simp only [hji3] at H ⊢; exact H)
  (try (have hji3l : 0 ≤ ji3 := by (rw [← hji3]; unfold mx; (repeat' split) <;> omega)))
  (try (have hji3m : 0 ≤ ji3 := by omega))
  have hji3_ : (if 0 < (wrap64 ((l0.length : Int) - 16)) then (wrap64 ((l0.length : Int) - 16)) else 0) = ji3 := hji3
  by_cases c4 : 0 ≤ (ji3)
  · rw [if_pos c4] at H
    have c4b0 := eq_true c4
    have c4b1 : decide (0 ≤ (ji3)) = true := decide_eq_true c4
    clear c4
    by_cases c5 : (ji3) ≤ (l0.length : Int)
    · rw [if_pos c5] at H
      have c5b0 := eq_true c5
      have c5b1 : decide ((ji3) ≤ (l0.length : Int)) = true := decide_eq_true c5
      clear c5
      replace H := Option.bind_eq_some_iff.mp H
      obtain ⟨t139, A60, H⟩ := H
      replace H : ((chunk_marked.f t139 a1).bind fun t140 => (some t140)) = some r := H
      have A6 := Aside0.mk A60
      clear A60
      replace H := Option.bind_eq_some_iff.mp H
      obtain ⟨t140, A70, H⟩ := H
      replace H : (some t140) = some r := H
      have A7 := Aside0.mk A70
      clear A70
      obtain rfl := Option.some.inj H
      obtain ⟨i08, hi08, _, hsz8, _⟩ := info_parts info5
      obtain ⟨A8, hcut8, hA8, hC8⟩ := print_drop_of (P := Try.prog) (Value.int .u8) 0 42 5 .i64 Try.underlying42 hi08 hsz8 A0 c0 l0 (ji3) (of_decide_eq_true (by first | (with_reducible assumption) | assumption)) (of_decide_eq_true (by first | (with_reducible assumption) | assumption)) HC0.out
      have HR138 := Aside0.mk (Kd.C_of_reads (h1 := fun _ => rfl) (hA8 _ (Kd.reads_of_C HR0.out)))
      have HC138 := Aside0.mk hC8
      clear hA8 hC8 hi08 hsz8
      go_enter Try.func20, Try.ntmps20
      go_wp2_with (first | ((with_reducible refine gate_callee (f := 30) rfl ?_); refine goesL_ (some 11) rfl rfl Try.func30 (by kernel_rfl) rfl #[.slice A8 (l0.drop ((ji3) : Int).toNat).length (c0 - (ji3).toNat)] rfl (by (try simp only [List.map_toArray, List.map_cons, List.map_nil]); first | done | (rw [show (l0.drop ((ji3) : Int).toNat).length = (l0.length - (ji3).toNat) from List.length_drop] <;> rfl) | (simp only [hji3]; rfl) | rfl | (simp only [List.length_drop, List.length_take]; rfl)) ?_; (with_reducible refine (roll_Sum.calls k _ _ (l0.drop ((ji3) : Int).toNat) t139 _ ?side1 ?side2 A6.out).mono ?_); (case side1 => repeat (first | exact HR138.out | (with_reducible refine Kd.C_alloc ?_ _) | (with_reducible refine Kd.C_drewN ?_ _) | (with_reducible refine Kd.C_drew ?_))); (case side2 => exact HC138.out); rintro e w' ⟨rfl, ⟨nd, rfl⟩⟩; refine ⟨_, rfl, ?_⟩) | ((with_reducible refine gate_callee (f := 28) rfl ?_); refine goesL_ (some 13) rfl rfl Try.func28 (by kernel_rfl) rfl #[.int .u32 t139, .int .i64 a1] rfl (by (try simp only [List.map_toArray, List.map_cons, List.map_nil]); first | done | rfl | (simp only [List.length_drop, List.length_take]; rfl)) ?_; (with_reducible refine (chunk_marked.calls t139 a1 t140 _ A7.out).mono ?_); rintro e w9 ⟨rfl, hb⟩; refine ⟨_, rfl, ?_⟩; have n0_ := Aside0.mk (below_step (by repeat (first | (with_reducible first | exact HB.out | apply below_alloc | apply pw_below_drewN | apply below_drew1) | exact HB.out)) hb); clear HB; have HB := n0_; clear n0_; (try clear hb); (try clear hb2); (try clear hk); (try clear hi)))
      go_ret
      exact ⟨by first | rfl | (simp [errW_none, errW_some] <;> rfl) | (simp only [← hji3]; first | rfl | (simp [errW_none, errW_some] <;> rfl)) | (simp [*, errW_none, errW_some] <;> rfl), by repeat (first | (with_reducible first | exact HB.out | apply below_alloc | apply pw_below_drewN | apply below_drew1) | exact HB.out)⟩
    · rw [if_neg c5] at H
      exact absurd H (by simp)
  · rw [if_neg c4] at H
    exact absurd H (by simp)

-- NOT PRINTED: function 7 (strongroomlaw17_ChunkMarks)

end Go.Proofs.Ytaeobiilihklhaa.F

-- F25
namespace Go.Proofs.Ytaeobiilihklhaa.F
open Go.RowKit Go.Proofs.YtaeobiilihklhaaW.PrintWords Go.Proofs.YtaeobiilihklhaaW.PrintLast Go.Proofs.YtaeobiilihklhaaW.PrintMore
attribute [local go_sem] max2_int min2_int max_two min_two max_three min_three max_four min_four   -- for this text's walks alone
set_option linter.unusedVariables false
set_option linter.unusedSimpArgs false

/-! ### strongroomref17_May: function 25 -/
def strongroomref17_May.f (a0 : Int) (a1 : Int) (a2 : Int) : Option (Bool) := if a0 ≥ 1 then (if a1 ≥ a0 then (if a1 ≤ 1024 then (if a2 ≥ 0 then (some (decide (a2 ≤ 16))) else (some false)) else (some false)) else (some false)) else (some false)
set_option maxHeartbeats 8000000 in
set_option maxRecDepth 100000 in
theorem strongroomref17_May.calls (a0 : Int) (a1 : Int) (a2 : Int) (r : Bool) (w : World) (h : strongroomref17_May.f a0 a1 a2 = some r) :
    Calls Try.prog 25 #[.int .i64 a0, .int .i64 a1, .int .i64 a2] w fun e w' => e = .returned (.bool r) ∧ Drawn0 w w' := by
  have H : (if a0 ≥ 1 then (if a1 ≥ a0 then (if a1 ≤ 1024 then (if a2 ≥ 0 then (some (decide (a2 ≤ 16))) else (some false)) else (some false)) else (some false)) else (some false)) = some r := h
  clear h
  by_cases c4 : a0 ≥ 1
  · rw [if_pos c4] at H
    have c4b0 : decide (1 ≤ a0) = true := decide_eq_true c4
    clear c4
    by_cases c5 : a1 ≥ a0
    · rw [if_pos c5] at H
      have c5b0 : decide (a0 ≤ a1) = true := decide_eq_true c5
      clear c5
      by_cases c6 : a1 ≤ 1024
      · rw [if_pos c6] at H
        have c6b0 : decide (a1 ≤ 1024) = true := decide_eq_true c6
        clear c6
        by_cases c7 : a2 ≥ 0
        · rw [if_pos c7] at H
          have c7b0 : decide (0 ≤ a2) = true := decide_eq_true c7
          clear c7
          obtain rfl := Option.some.inj H
          go_enter Try.func25, Try.ntmps25
          go_wp2
          go_ret
          exact ⟨by first | rfl | (simp; done) | (simp [*]; done), by repeat (first | exact Drawn0.refl _ | apply Drawn0.step)⟩
        · rw [if_neg c7] at H
          have c7b0 : decide (0 ≤ a2) = false := decide_eq_false c7
          clear c7
          obtain rfl := Option.some.inj H
          go_enter Try.func25, Try.ntmps25
          go_wp2
          go_ret
          exact ⟨by first | rfl | (simp; done) | (simp [*]; done), by repeat (first | exact Drawn0.refl _ | apply Drawn0.step)⟩
      · rw [if_neg c6] at H
        have c6b0 : decide (a1 ≤ 1024) = false := decide_eq_false c6
        clear c6
        obtain rfl := Option.some.inj H
        go_enter Try.func25, Try.ntmps25
        go_wp2
        go_ret
        exact ⟨by first | rfl | (simp; done) | (simp [*]; done), by repeat (first | exact Drawn0.refl _ | apply Drawn0.step)⟩
    · rw [if_neg c5] at H
      have c5b0 : decide (a0 ≤ a1) = false := decide_eq_false c5
      clear c5
      obtain rfl := Option.some.inj H
      go_enter Try.func25, Try.ntmps25
      go_wp2
      go_ret
      exact ⟨by first | rfl | (simp; done) | (simp [*]; done), by repeat (first | exact Drawn0.refl _ | apply Drawn0.step)⟩
  · rw [if_neg c4] at H
    have c4b0 : decide (1 ≤ a0) = false := decide_eq_false c4
    clear c4
    obtain rfl := Option.some.inj H
    go_enter Try.func25, Try.ntmps25
    go_wp2
    go_ret
    exact ⟨by first | rfl | (simp; done) | (simp [*]; done), by repeat (first | exact Drawn0.refl _ | apply Drawn0.step)⟩

end Go.Proofs.Ytaeobiilihklhaa.F

-- F12
namespace Go.Proofs.Ytaeobiilihklhaa.F
open Go.RowKit Go.Proofs.YtaeobiilihklhaaW.PrintWords Go.Proofs.YtaeobiilihklhaaW.PrintLast Go.Proofs.YtaeobiilihklhaaW.PrintMore
attribute [local go_sem] max2_int min2_int max_two min_two max_three min_three max_four min_four   -- for this text's walks alone
set_option linter.unusedVariables false
set_option linter.unusedSimpArgs false

/-! ### strongroomlaw17_may: function 12 -/
def strongroomlaw17_may.f (a0_0 : Int) (a0_1 : Int) (a0_2 : Int) : Option (Bool) := (strongroomref17_May.f a0_0 a0_1 a0_2).bind fun t108 => (some t108)
set_option maxHeartbeats 8000000 in
set_option maxRecDepth 100000 in
theorem strongroomlaw17_may.calls (a0_0 : Int) (a0_1 : Int) (a0_2 : Int) (r : Bool) (w : World) (h : strongroomlaw17_may.f a0_0 a0_1 a0_2 = some r) :
    Calls Try.prog 12 #[.agg #[.int .i64 a0_0, .int .i64 a0_1, .int .i64 a0_2]] w fun e w' => e = .returned (.bool r) ∧ Below w.heap.size w w' := by
  have hu23 := Try.underlying23
  have HB := Aside0.mk (Below.refl w.heap.size w)
  have H : ((strongroomref17_May.f a0_0 a0_1 a0_2).bind fun t108 => (some t108)) = some r := h
  clear h
  replace H := Option.bind_eq_some_iff.mp H
  obtain ⟨t108, A20, H⟩ := H
  replace H : (some t108) = some r := H
  have A2 := Aside0.mk A20
  clear A20
  obtain rfl := Option.some.inj H
  go_enter Try.func12, Try.ntmps12
  go_wp2_with (first | ((with_reducible refine gate_dst (N := 1) rfl ?_); refine box_event ?hg (N := 1) ?hd (cs := #[.int .i64 a0_0, .int .i64 a0_1, .int .i64 a0_2]) (t := 23) ?hr ?_; (case hd => rfl); (case hg => rfl); (case hr => first | (go_simp; done) | (go_simp; rfl)); intro gb107 hg w3 hbox hb; have n0_ := Aside0.mk (below_step (by repeat (first | (with_reducible first | exact HB.out | apply below_alloc | apply pw_below_drewN | apply below_drew1) | exact HB.out)) hb); have n1_ := Aside0.mk (hbox); have n2_ := Aside0.mk ((by rw [hg]; exact (below_size (by repeat (first | (with_reducible first | exact HB.out | apply below_alloc | apply pw_below_drewN | apply below_drew1) | exact HB.out))) : w.heap.size ≤ gb107)); have n3_ := Aside0.mk ((by rw [hg]; exact (below_size (by repeat (first | (with_reducible first | exact HB.out | apply below_alloc | apply pw_below_drewN | apply below_drew1) | exact HB.out))) : w.heap.size ≤ gb107)); clear HB; have HB := n0_; have BK107 := n1_; have GW107 := n2_; have GE107 := n3_; clear n0_ n1_ n2_ n3_; clear hb hbox hg; have hcz4_0 : w3.cell? ⟨gb107, 0, none⟩ = some (.int .i64 a0_0) := (blk_cell BK107.out 0).trans rfl; have hcz4_1 : w3.cell? ⟨gb107, 1, none⟩ = some (.int .i64 a0_1) := (blk_cell BK107.out 1).trans rfl; have hcz4_2 : w3.cell? ⟨gb107, 2, none⟩ = some (.int .i64 a0_2) := (blk_cell BK107.out 2).trans rfl; have hfz4_0 := blk_frozen BK107.out 0; have hfz4_1 := blk_frozen BK107.out 1; have hfz4_2 := blk_frozen BK107.out 2) | ((with_reducible refine gate_callee (f := 25) rfl ?_); refine goesL_ (some 9) rfl rfl Try.func25 (by kernel_rfl) rfl #[.int .i64 a0_0, .int .i64 a0_1, .int .i64 a0_2] rfl (by (try simp only [List.map_toArray, List.map_cons, List.map_nil]); first | done | rfl | (simp only [List.length_drop, List.length_take]; rfl)) ?_; (with_reducible refine (strongroomref17_May.calls a0_0 a0_1 a0_2 t108 _ A2.out).mono ?_); rintro e w' ⟨rfl, ⟨nd, rfl⟩⟩; refine ⟨_, rfl, ?_⟩))
  go_ret
  exact ⟨by first | rfl | (simp [errW_none, errW_some] <;> rfl) | (simp [*, errW_none, errW_some] <;> rfl), by repeat (first | (with_reducible first | exact HB.out | apply below_alloc | apply pw_below_drewN | apply below_drew1 | refine below_set ?_ GE107.out) | exact HB.out)⟩

end Go.Proofs.Ytaeobiilihklhaa.F

-- ChunkR
namespace Go.Proofs.Ytaeobiilihklhaa.F
open Go Go.RowKit Go.Proofs.YtaeobiilihklhaaW.PrintWords Go.Proofs.YtaeobiilihklhaaW.PrintLast Go.Proofs.YtaeobiilihklhaaW.PrintMore Go.Proofs.YtaeobiilihklhaaM Go.Proofs.YtaeobiilihklhaaR
set_option linter.unusedSimpArgs false
set_option linter.unusedVariables false
theorem lmay_c (lo hi bits : Int) (w : World) : Calls Try.prog 12 #[.agg #[.int .i64 lo, .int .i64 hi, .int .i64 bits]] w (Tells w (Is (.bool (decide (mayM lo hi bits))))) := by
  refine tells_is ((strongroomlaw17_may.calls lo hi bits _ w ?_).mono fun _ _ ⟨h, k⟩ => ⟨h, k⟩)
  unfold strongroomlaw17_may.f strongroomref17_May.f
  by_cases h : mayM lo hi bits
  · rw [decide_eq_true h]
    obtain ⟨h1, h2, h3, h4, h5⟩ := h
    rw [if_pos h1, if_pos h2, if_pos h3, if_pos h4, decide_eq_true h5]; rfl
  · rw [decide_eq_false h]
    unfold mayM at h
    repeat' split
    all_goals first | rfl | (rw [decide_eq_false (by omega)]; rfl)
theorem str_extract (l : List Int) (a b : Nat) : (strOfNums l).extract a b = strOfNums ((l.take b).drop a) := by
  apply ByteArray.ext
  apply Array.ext'
  simp only [strOfNums, ByteArray.data_extract, Array.toList_extract, List.extract_eq_take_drop, List.map_drop, List.map_take, List.drop_take]
theorem last_f (s : List Int) (hs : s.length ≤ 100000) : strongroomref04_Last.f (strOfNums s) 16 = some (strOfNums (lastL 16 s)) := by
  unfold strongroomref04_Last.f
  rw [str_size]
  by_cases h : (s.length : Int) ≤ 16
  · rw [if_pos h, lastL_short (by omega)]
  · rw [if_neg h, w64 (by omega) (by omega), if_pos (by omega), if_pos (by omega), str_extract, List.take_of_length_le (Nat.le_refl _)]
    rw [show ((s.length : Int) - 16).toNat = s.length - 16 from by omega]
    rfl
theorem rmark_l0 (bits : Int) (B : Nat) (hB : B = min bits.toNat 32) : ∀ (r k : Nat) (x : Int), r ≤ B → 2 * r + 2 ≤ k → 0 ≤ x → x < 4294967296 → strongroomref17_Mark.l0 k bits x ((B - r : Nat) : Int) = some (decide (x < 2 ^ (32 - r)))
  | 0, k, x, hr, hk, h0, h1 => by
    obtain ⟨k, rfl⟩ : ∃ m, k = m + 2 := ⟨k - 2, by omega⟩
    simp only [strongroomref17_Mark.l0, strongroomref17_Mark.j1]
    have e : decide (x < 2 ^ (32 - 0)) = true := decide_eq_true (by simpa using h1)
    rw [e]
    by_cases hb : ((B - 0 : Nat) : Int) < bits
    · rw [if_pos hb, decide_eq_false (by omega)]; simp
    · rw [if_neg hb]; simp
  | r + 1, k, x, hr, hk, h0, h1 => by
    obtain ⟨k, rfl⟩ : ∃ m, k = m + 2 := ⟨k - 2, by omega⟩
    simp only [strongroomref17_Mark.l0, strongroomref17_Mark.j1]
    rw [if_pos (by omega), decide_eq_true (show ((B - (r + 1) : Nat) : Int) < 32 from by omega), if_pos rfl]
    have hp : (2 : Int) ^ (32 - r) = 2 * 2 ^ (32 - (r + 1)) := by
      rw [show 32 - r = (32 - (r + 1)) + 1 from by omega, Int.pow_succ, Int.mul_comm]
    have hle : (2 : Int) ^ (32 - (r + 1)) ≤ 2147483648 := by
      have : (2 : Nat) ^ (32 - (r + 1)) ≤ 2 ^ 31 := Nat.pow_le_pow_right (by omega) (by omega)
      have h2 : ((2 ^ (32 - (r + 1)) : Nat) : Int) ≤ ((2 ^ 31 : Nat) : Int) := by exact_mod_cast this
      simpa using h2
    by_cases hx : x ≥ 2147483648
    · rw [if_pos hx]
      congr 1
      exact (decide_eq_false (by omega)).symm
    · rw [if_neg hx, w64 (by omega) (by omega), show ((B - (r + 1) : Nat) : Int) + 1 = ((B - r : Nat) : Int) from by omega, rmark_l0 bits B hB r k _ (by omega) (by omega) (by omega) (by omega)]
      congr 1
      rw [show (x * 2) % 4294967296 = x * 2 from by omega, hp]
      generalize (2 : Int) ^ (32 - (r + 1)) = z at *
      rw [Bool.eq_iff_iff]; simp only [decide_eq_true_eq]; omega
theorem rmark_f (s : List Int) (bits : Int) (k : Nat) (hs : s.length ≤ 100000) (hb : ∀ x ∈ s, 0 ≤ x ∧ x < 256) (hk : 100 ≤ k) : strongroomref17_Mark.f k (strOfNums s) bits = some (markB (weak (lastL 16 s)) bits) := by
  unfold strongroomref17_Mark.f
  have hl := lastL_len 16 s
  rw [last_f s hs, obs, rsum_f _ (by rw [str_size]; omega) k (by rw [str_size]; omega), obs, bytesOf_str (l := lastL 16 s) (fun x hx => hb x (List.mem_of_mem_drop hx))]
  have := rmark_l0 bits _ rfl (min bits.toNat 32) k ((weak (lastL 16 s) * 2654435761) % 4294967296) (Nat.le_refl _) (by omega) (Int.emod_nonneg _ (by omega)) (Int.emod_lt_of_pos _ (by omega))
  rw [Nat.sub_self] at this
  exact this
theorem rcut_l0 (l : List Int) (lo hi bits : Int) (hlh : lo ≤ hi) (hl : l.length ≤ 100000) (hb : ∀ x ∈ l, 0 ≤ x ∧ x < 256) : ∀ (suf pre : List Int) (from_ k : Nat) (acc : List (List Int)), l = pre ++ suf → from_ ≤ pre.length → suf.length + 200 ≤ k → acc.length ≤ pre.length →
    strongroomref17_Cut.l0 k (strOfNums l) lo hi bits (strs acc) (from_ : Int) ((pre.length : Int) + 1) = some (strs (finish (cutRun lo hi bits (lastL 16 pre) (pre.drop from_) suf acc))) := by
  intro suf
  induction suf with
  | nil =>
    intro pre from_ k acc hp hf hk ha
    obtain ⟨k, rfl⟩ : ∃ m, k = m + 1 := ⟨k - 1, by omega⟩
    have hpl : l = pre := by simpa using hp
    subst hpl
    simp only [strongroomref17_Cut.l0, cutRun, finish]
    rw [str_size, if_neg (by omega), strs_len]
    by_cases hfl : (from_ : Int) < (l.length : Int)
    · rw [if_pos hfl, if_pos (by omega), if_pos (by omega), if_pos (by omega), Int.toNat_natCast, str_extract, List.take_of_length_le (Nat.le_refl _)]
      have hne : (l.drop from_) ≠ [] := by intro h; have := congrArg List.length h; simp at this; omega
      cases hd : l.drop from_ with
      | nil => exact absurd hd hne
      | cons y z => simp [strs, opt]
    · rw [if_neg hfl, List.drop_eq_nil_of_le (by omega)]
      simp [opt]
  | cons x suf ih =>
    intro pre from_ k acc hp hf hk ha
    obtain ⟨k, rfl⟩ : ∃ m, k = m + 1 := ⟨k - 1, by omega⟩
    have hlen : l.length = pre.length + suf.length + 1 := by rw [hp]; simp; omega
    have htake : l.take (pre.length + 1) = pre ++ [x] := by rw [hp, show pre ++ x :: suf = (pre ++ [x]) ++ suf from by simp]; exact List.take_left' (by simp)
    have hw : ∀ a : Nat, a = pre.length + 1 - 16 → (strOfNums l).extract a (pre.length + 1) = strOfNums (lastL 16 (pre ++ [x])) := by
      intro a ha
      rw [str_extract, htake, ha]
      unfold lastL
      rw [List.length_append, List.length_singleton]
    have hx : (strOfNums l).extract from_ (pre.length + 1) = strOfNums (pre.drop from_ ++ [x]) := by
      rw [str_extract, htake, List.drop_append_of_le_length hf]
    have hmk := rmark_f (lastL 16 (pre ++ [x])) bits k (by have := lastL_len 16 (pre ++ [x]); omega) (fun y hy => hb y (by
      have := List.mem_of_mem_drop hy
      rw [hp]
      rcases List.mem_append.1 this with h | h
      · simp [h]
      · simp at h; simp [h])) (by simp at hk; omega)
    have ell : lastL 16 (lastL 16 (pre ++ [x])) = lastL 16 (pre ++ [x]) := lastL_short (lastL_len 16 _)
    rw [ell] at hmk
    have esnoc : lastL 16 (lastL 16 pre ++ [x]) = lastL 16 (pre ++ [x]) := lastL_last 16 pre [x]
    -- the two ways on
    have yes : cutsB lo hi bits ((pre.drop from_).length + 1) (lastL 16 (pre ++ [x])) = true → strongroomref17_Cut.l0 k (strOfNums l) lo hi bits (strs acc ++ [strOfNums (pre.drop from_ ++ [x])]) ((pre.length : Int) + 1) ((pre.length : Int) + 1 + 1) = some (strs (finish (cutRun lo hi bits (lastL 16 pre) (pre.drop from_) (x :: suf) acc))) := by
      intro hc
      have h := ih (pre ++ [x]) (pre.length + 1) k (acc ++ [pre.drop from_ ++ [x]]) (by rw [hp]; simp) (by simp) (by simp at hk ⊢; omega) (by simp; omega)
      simp only [cutRun]
      rw [esnoc, if_pos hc]
      rw [show (pre ++ [x]).drop (pre.length + 1) = [] from List.drop_eq_nil_of_le (by simp)] at h
      rw [← h]
      simp [strs]
    have no : cutsB lo hi bits ((pre.drop from_).length + 1) (lastL 16 (pre ++ [x])) = false → strongroomref17_Cut.l0 k (strOfNums l) lo hi bits (strs acc) (from_ : Int) ((pre.length : Int) + 1 + 1) = some (strs (finish (cutRun lo hi bits (lastL 16 pre) (pre.drop from_) (x :: suf) acc))) := by
      intro hc
      have h := ih (pre ++ [x]) from_ k acc (by rw [hp]; simp) (by simp; omega) (by simp at hk ⊢; omega) (by simp; omega)
      simp only [cutRun]
      rw [esnoc, if_neg (by rw [hc]; simp)]
      rw [List.drop_append_of_le_length hf] at h
      rw [← h]
      simp
    have hdl : (pre.drop from_).length = pre.length - from_ := List.length_drop
    rw [hdl] at yes no
    have c1 : ((pre.length - from_ + 1 : Nat) : Int) = (pre.length : Int) + 1 - (from_ : Int) := by omega
    have e2 : ((pre.length : Int) + 1).toNat = pre.length + 1 := by omega
    simp only [strongroomref17_Cut.l0]
    rw [str_size, if_pos (by omega), w64 (x := (pre.length : Int) + 1 - 16) (by omega) (by omega), w64 (x := (pre.length : Int) + 1 - (from_ : Int)) (by omega) (by omega), w64 (x := (pre.length : Int) + 1 + 1) (by omega) (by omega), e2, Int.toNat_natCast, hx, strs_len]
    have mfin : (if markB (weak (lastL 16 (pre ++ [x]))) bits = true then
        (if 0 ≤ (from_ : Int) then (if (from_ : Int) ≤ (pre.length : Int) + 1 then (if acc.length < 8796093022208 then (strongroomref17_Cut.l0 k (strOfNums l) lo hi bits (strs acc ++ [strOfNums (pre.drop from_ ++ [x])]) ((pre.length : Int) + 1) ((pre.length : Int) + 1 + 1)) else none) else none) else none)
        else strongroomref17_Cut.l0 k (strOfNums l) lo hi bits (strs acc) (from_ : Int) ((pre.length : Int) + 1 + 1)) = some (strs (finish (cutRun lo hi bits (lastL 16 pre) (pre.drop from_) (x :: suf) acc))) ∨ (pre.length : Int) + 1 - (from_ : Int) = hi ∨ ¬ ((pre.length : Int) + 1 - (from_ : Int) ≥ lo) := by
      by_cases h1 : (pre.length : Int) + 1 - (from_ : Int) = hi
      · exact .inr (.inl h1)
      · by_cases h2 : (pre.length : Int) + 1 - (from_ : Int) ≥ lo
        · left
          cases hm : markB (weak (lastL 16 (pre ++ [x]))) bits with
          | true =>
            rw [if_pos rfl, if_pos (by omega), if_pos (by omega), if_pos (by omega)]
            refine yes ?_
            simp only [cutsB, Bool.and_eq_true, Bool.or_eq_true, decide_eq_true_eq]
            exact ⟨by omega, .inr hm⟩
          | false =>
            rw [if_neg (by simp)]
            refine no ?_
            simp only [cutsB, Bool.and_eq_false_iff, Bool.or_eq_false_iff, decide_eq_false_iff_not]
            exact .inr ⟨by omega, hm⟩
        · exact .inr (.inr h2)
    have hcA : (pre.length : Int) + 1 - (from_ : Int) = hi → cutsB lo hi bits (pre.length - from_ + 1) (lastL 16 (pre ++ [x])) = true := by
      intro h1
      simp only [cutsB, Bool.and_eq_true, Bool.or_eq_true, decide_eq_true_eq]
      exact ⟨by omega, .inl (by omega)⟩
    have hcC : ¬ ((pre.length : Int) + 1 - (from_ : Int) ≥ lo) → cutsB lo hi bits (pre.length - from_ + 1) (lastL 16 (pre ++ [x])) = false := by
      intro h2
      simp only [cutsB, Bool.and_eq_false_iff, decide_eq_false_iff_not]
      exact .inl (by omega)
    by_cases h0 : (pre.length : Int) + 1 - 16 < 0
    · rw [if_pos h0]
      by_cases h1 : (pre.length : Int) + 1 - (from_ : Int) = hi
      · rw [if_pos h1, if_pos (by omega), if_pos (by omega), if_pos (by omega)]; exact yes (hcA h1)
      · rw [if_neg h1]
        by_cases h2 : (pre.length : Int) + 1 - (from_ : Int) ≥ lo
        · rw [if_pos h2, if_pos (by omega), hw 0 (by omega), hmk, obs]
          exact mfin.resolve_right (fun h => h.elim h1 (fun h => h h2))
        · rw [if_neg h2]; exact no (hcC h2)
    · rw [if_neg h0]
      by_cases h1 : (pre.length : Int) + 1 - (from_ : Int) = hi
      · rw [if_pos h1, if_pos (by omega), if_pos (by omega), if_pos (by omega)]; exact yes (hcA h1)
      · rw [if_neg h1]
        by_cases h2 : (pre.length : Int) + 1 - (from_ : Int) ≥ lo
        · rw [if_pos h2, if_pos (by omega), if_pos (by omega), hw _ (show ((pre.length : Int) + 1 - 16).toNat = pre.length + 1 - 16 from by omega), hmk, obs]
          exact mfin.resolve_right (fun h => h.elim h1 (fun h => h h2))
        · rw [if_neg h2]; exact no (hcC h2)
theorem str_bytesOf (s : ByteArray) : strOfNums (bytesOf s) = s := by
  apply ByteArray.ext
  apply Array.ext'
  simp only [strOfNums, bytesOf, List.map_map]
  exact (List.map_congr_left (fun b _ => by simp)).trans (List.map_id _)
theorem rcut_f (s : ByteArray) (lo hi bits : Int) (hlh : lo ≤ hi) (hs : s.size ≤ 100000) : strongroomref17_Cut.f (s.size + 200) s lo hi bits = some (strs (chunksL lo hi bits (bytesOf s))) := by
  unfold strongroomref17_Cut.f
  have := rcut_l0 (bytesOf s) lo hi bits hlh (by rw [bytesOf_length]; exact hs) (bytesOf_byte s) (bytesOf s) [] 0 (s.size + 200) [] rfl (by simp) (by rw [bytesOf_length]; omega) (by simp)
  rw [str_bytesOf] at this
  exact this
theorem rcut_c (s : ByteArray) (lo hi bits : Int) (w : World) (hlh : lo ≤ hi) (hs : s.size ≤ 100000) : Calls Try.prog 14 #[.string s, .int .i64 lo, .int .i64 hi, .int .i64 bits] w (Tells w (fun w' v => w'.ownsRow w.heap.size 9 1 v (chunksL lo hi bits (bytesOf s)).length (encs Value.string (strs (chunksL lo hi bits (bytesOf s)))))) :=
  (strongroomref17_Cut.calls (s.size + 200) s lo hi bits _ w (rcut_f s lo hi bits hlh hs)).mono fun e w' ⟨v, he, hR, hb⟩ => ⟨v, he, by have := Kd.own_of_R (h1 := fun _ => rfl) hR; rw [strs_len] at this; exact this, hb⟩
end Go.Proofs.Ytaeobiilihklhaa.F

-- ChunkWhole
namespace Go.Proofs.Ytaeobiilihklhaa.F
open Go Go.RowKit Go.Proofs.YtaeobiilihklhaaW.PrintWords Go.Proofs.YtaeobiilihklhaaW.PrintLast Go.Proofs.YtaeobiilihklhaaW.PrintMore Go.Proofs.YtaeobiilihklhaaM Go.Proofs.YtaeobiilihklhaaR
set_option linter.unusedSimpArgs false
set_option linter.unusedVariables false
set_option maxRecDepth 100000
theorem chunks_at {lo hi bits : Int} (hm : mayM lo hi bits) (l : List Int) {pre suf : List (List Int)} {c : List Int} (h : chunksL lo hi bits l = pre ++ c :: suf) : (c.length : Int) ≤ hi ∧ (suf ≠ [] → lo ≤ (c.length : Int)) ∧ c ≠ [] := by
  have hlo := hm.1
  have hw := cutRun_wait hm l [] [] [] (by have := hm.2.1; simp; omega)
  have hl := cutRun_lens hm l [] [] [] (by have := hm.2.1; simp; omega) (by simp)
  unfold chunksL finish at h
  generalize (cutRun lo hi bits [] [] l []).1 = A at *
  generalize (cutRun lo hi bits [] [] l []).2.2 = b at *
  have hc : c ∈ A ++ opt b := by rw [h]; simp
  rcases List.append_eq_append_iff.1 h with ⟨m, hm1, hm2⟩ | ⟨m, hm1, hm2⟩
  · -- A is a part of pre
    have hcb : c ∈ opt b := by rw [hm2]; simp
    have := opt_len b
    rw [hm2] at this
    simp only [List.length_append, List.length_cons] at this
    refine ⟨by rw [(opt_mem hcb).1]; omega, fun hs => absurd (List.eq_nil_of_length_eq_zero (by omega)) hs, by rw [(opt_mem hcb).1]; exact (opt_mem hcb).2⟩
  · cases m with
    | nil =>
      simp only [List.nil_append] at hm2
      have hcb : c ∈ opt b := by rw [← hm2]; simp
      have := opt_len b
      rw [← hm2] at this
      simp only [List.length_cons] at this
      refine ⟨by rw [(opt_mem hcb).1]; omega, fun hs => absurd (List.eq_nil_of_length_eq_zero (by omega)) hs, by rw [(opt_mem hcb).1]; exact (opt_mem hcb).2⟩
    | cons c' m =>
      simp only [List.cons_append, List.cons.injEq] at hm2
      obtain ⟨rfl, -⟩ := hm2
      have := hl c (by rw [hm1]; simp)
      exact ⟨this.2, fun _ => this.1, fun e => by rw [e] at this; simp at this; omega⟩
theorem strs_cell {w : World} {A : Option Addr} {n : Nat} {ss : List ByteArray} (h : Kd.C Kd.string w A n ss) (i : Nat) (hi : i < n) : ∃ ad, A = some ad ∧ w.cell? (ad.add i) = some (.string (ss.getD i ByteArray.empty)) := by
  obtain ⟨ad, hA, hc⟩ := (Kd.reads_of_C (enc := Value.string) (d := ByteArray.empty) (h1 := fun _ => rfl) h).at_ (i : Int) (by omega) (by omega)
  exact ⟨ad, hA, by simpa [rdOf] using hc⟩
theorem strs_mid (pre : List (List Int)) (c : List Int) (suf : List (List Int)) : (strs (pre ++ c :: suf)).getD pre.length ByteArray.empty = strOfNums c := by
  simp [strs, List.getD]
theorem str_app (l m : List Int) : strOfNums l ++ strOfNums m = strOfNums (l ++ m) := by
  unfold strOfNums
  apply ByteArray.ext
  simp
set_option maxHeartbeats 2000000 in
theorem ChunkWhole_c (w : World) (t : ByteArray) (lo hi bits : Int) (ht : t.size ≤ 140737488351232) (h0 : (Lit.int .i64 lo).wf = true) (h1 : (Lit.int .i64 hi).wf = true) (h2 : (Lit.int .i64 bits).wf = true) :
    Calls Try.prog 4 #[.string t, .agg #[.int .i64 lo, .int .i64 hi, .int .i64 bits]] w (Tells w (Is (.bool true))) := by
  clear h0 h1 h2
  by_cases h : 5000 < t.size
  · have h1 : decide (5000 < t.size) = true := decide_eq_true h
    go_enter Try.func4, Try.ntmps4
    go_wp2_with fail
    refine (lives_c _).mono ?_
    rintro e w' ⟨_, rfl, rfl, hg⟩
    go_wp2
    go_ret
    exact ⟨_, rfl, rfl, (Grew.alloc _ _).trans hg⟩
  · have h1 : decide (5000 < t.size) = false := decide_eq_false h
    have hb0 := Blk.new w 23 [.int .i64 lo, .int .i64 hi, .int .i64 bits]
    have HB0 := Lib.hid hb0
    clear hb0
    by_cases hm : mayM lo hi bits
    · have HC := Lib.hid (fun w => cut_c t lo hi bits w hm (by omega))
      have hcl := chunksL_len lo hi bits (bytesOf t)
      have hfl := chunksL_flat lo hi bits (bytesOf t)
      have HAt := Lib.hid (fun pre suf c => @chunks_at lo hi bits hm (bytesOf t) pre suf c)
      rw [bytesOf_length] at hcl
      obtain ⟨cs, hcs⟩ : ∃ cs, cs = chunksL lo hi bits (bytesOf t) := ⟨_, rfl⟩
      rw [← hcs] at HC HAt hcl hfl
      have HFl := Lib.hid hfl
      clear hm hcs hfl
      go_enter Try.func4, Try.ntmps4
      go_wp2_with fail
      refine (HC.out _).mono ?_
      rintro e w1 ⟨_, rfl, ⟨v1, rfl, ho1⟩, hg1⟩
      have hb1 := HB0.out.grew hg1
      rw [strs_len] at ho1
      obtain ⟨A1, c1, rfl, -, hc1, hC1⟩ := own_strs ho1
      have hgw1 : Grew w w1 := (Grew.alloc _ _).trans hg1
      have HCr := Lib.hid hC1
      have HBr := Lib.hid hb1
      clear ho1 hb1 hC1
      go_wp2_with fail
      go_loopw [7, 8] (fun sv iv wr => ∃ pre suf : List (List Int), cs = pre ++ suf ∧ iv = .int .i64 (pre.length : Int) ∧ sv = .string (strOfNums pre.flatten) ∧ Grew w1 wr) (fun _ iv _ => cs.length - (intOf iv).toNat)
      case atStart => exact ⟨[], cs, rfl, rfl, rfl, Grew.refl _⟩
      case round =>
        obtain ⟨pre, suf, hp, rfl, rfl, hgr⟩ := hrel
        rcases suf with _ | ⟨c, suf⟩
        · have hlen : cs.length = pre.length := by rw [hp]; simp
          have hfe : strOfNums pre.flatten = t := by
            have := HFl.out
            rw [hp] at this
            rw [show pre.flatten = (pre ++ []).flatten from by simp, this]
            exact str_bytesOf t
          have d2 : decide (pre.length < cs.length) = false := decide_eq_false (by omega)
          rw [hfe]
          clear hp hlen hfe
          go_wp2_with fail
          refine (lives_c _).mono ?_
          rintro e w2 ⟨_, rfl, rfl, hg2⟩
          go_wp2
          go_ret
          exact ⟨_, rfl, rfl, hgw1.trans (hgr.trans hg2)⟩
        · have hlen : cs.length = pre.length + suf.length + 1 := by rw [hp]; simp; omega
          have d2 : decide (pre.length < cs.length) = true := decide_eq_true (by omega)
          have hlt : pre.length < cs.length := by omega
          obtain ⟨hi1, hlo1, hne⟩ := HAt.out pre suf c hp
          obtain ⟨ad, rfl, hcell⟩ := strs_cell (Kd.C_below HCr.out hgr) pre.length (by omega)
          rw [show (strs cs).getD pre.length ByteArray.empty = strOfNums c from by rw [hp]; exact strs_mid pre c suf] at hcell
          have happ : strOfNums pre.flatten ++ strOfNums c = strOfNums (pre ++ [c]).flatten := by rw [str_app]; simp
          have hfl := congrArg List.length HFl.out
          rw [bytesOf_length, hp] at hfl
          simp only [List.flatten_append, List.flatten_cons, List.length_append] at hfl
          have hz1 : (strOfNums pre.flatten).size = pre.flatten.length := str_size _
          have hz2 : (strOfNums c).size = c.length := str_size _
          have hcl : c.length ≤ 5000 := by omega
          have hpl : pre.flatten.length ≤ 5000 := by omega
          have hpos : 0 < c.length := by cases c with
            | nil => exact absurd rfl hne
            | cons => simp
          have hem : (strOfNums c).toList.isEmpty = false := by rw [str_empty]; cases c with
            | nil => exact absurd rfl hne
            | cons => rfl
          have hem2 : ¬ (strOfNums c).toList = [] := by simpa using hem
          have e1 : decide (hi < (c.length : Int)) = false := decide_eq_false (by omega)
          have HP := Lib.hid hp
          have hb := HBr.out.grew hgr
          have K0 := Lib.hid (hb.at_ 0)
          have K1 := Lib.hid (hb.at_ 1)
          have HCell := Lib.hid hcell
          have k0 := hb.at_ 0
          simp only [List.getElem?_cons_zero] at k0
          have e5 : IntKind.i64.wrap ((cs.length : Int) - 1) = (cs.length : Int) - 1 := IntWalk.i64_in _ (by omega)
          clear hp hfl hne hb
          by_cases hs : suf = []
          · have d3 : decide ((pre.length : Int) < (cs.length : Int) - 1) = false := decide_eq_false (by rw [hs] at hlen; simp at hlen; omega)
            clear hs hlen hlo1
            go_wp2_with fail
            apply region_grew [Is _, Is _, Is _, Is _, Is _, Is _, Is _, Is _, Is _, Is _, Is _, Is _, Is _, Is _, Is _, Is undef, Is undef, Is undef, Is undef, Is undef, Is undef, Is undef, Is undef, Is _, Is _, Is _, Is _, Is _] [([(5, none)], none), ([(8, none)], none), ([(44, some 0), (45, some 1)], none), ([(46, some 2)], none), ([(47, some 3)], none), ([(3, none)], none), ([(49, some 5)], none), ([(48, some 4), (50, some 6)], none), ([(51, some 7)], none), ([(8, none), (52, some 8)], some (52, false)), ([(5, none), (52, some 8)], some (52, false)), ([(54, some 10), (52, some 8)], some (52, false)), ([(55, some 11), (52, some 8)], some (52, false)), ([(53, some 9), (56, some 12), (52, some 8)], some (52, false)), ([(57, some 13), (52, some 8)], some (52, false)), ([(5, none), (58, some 14)], some (58, true)), ([(8, none), (58, some 14)], some (58, true)), ([(59, some 15), (60, some 16), (58, some 14)], some (58, true)), ([(61, some 17), (58, some 14)], some (58, true)), ([(62, some 18), (58, some 14)], some (58, true)), ([(3, none), (58, some 14)], some (58, true)), ([(64, some 20), (58, some 14)], some (58, true)), ([(63, some 19), (65, some 21), (58, some 14)], some (58, true)), ([(58, some 14), (66, some 22), (52, some 8)], some (52, false)), ([(52, some 8), (67, some 23)], none), ([(68, some 24)], none), ([(5, none), (69, some 25)], some (69, false)), ([(8, none), (69, some 25)], some (69, false))] [(44, 0), (45, 1), (46, 2), (47, 3), (48, 4), (49, 5), (50, 6), (51, 7), (52, 8), (53, 9), (54, 10), (55, 11), (56, 12), (57, 13), (58, 14), (59, 15), (60, 16), (61, 17), (62, 18), (63, 19), (64, 20), (65, 21), (66, 22), (67, 23), (68, 24), (69, 25), (70, 26), (71, 27)] rfl (by kernel_rfl) (by kernel_rfl) (show Stable Grew _ from ⟨Is.stable _, Is.stable _, Is.stable _, Is.stable _, Is.stable _, Is.stable _, Is.stable _, Is.stable _, Is.stable _, Is.stable _, Is.stable _, Is.stable _, Is.stable _, Is.stable _, Is.stable _, Is.stable _, Is.stable _, Is.stable _, Is.stable _, Is.stable _, Is.stable _, Is.stable _, Is.stable _, Is.stable _, Is.stable _, Is.stable _, Is.stable _, Is.stable _, trivial⟩)
            · show OpsHold _ _ _ _ _ _ _ _ _
              refine ⟨fun a_ wx hR hD K hK => ?_, ?_⟩
              · have hG : Grew wr wx := (Grew.drew _).trans hR
                simp [Deps, Dep, at_, Is] at hD
                go_simp
                exact hK _ _ (Grew.refl _) rfl
              refine ⟨fun a_ wx hR hD K hK => ?_, ?_⟩
              · have hG : Grew wr wx := (Grew.drew _).trans hR
                simp [Deps, Dep, at_, Is] at hD
                go_simp
                exact hK _ _ (Grew.refl _) rfl
              refine ⟨fun a_ wx hR hD K hK => ?_, ?_⟩
              · have hG : Grew wr wx := (Grew.drew _).trans hR
                simp [Deps, Dep, at_, Is] at hD
                obtain ⟨hd0, hd1⟩ := hD
                go_simp
                exact hK _ _ (Grew.refl _) rfl
              refine ⟨fun a_ wx hR hD K hK => ?_, ?_⟩
              · have hG : Grew wr wx := (Grew.drew _).trans hR
                simp [Deps, Dep, at_, Is] at hD
                have e_ := pw_cell_below hG HCell.out
                go_simp
                exact hK _ _ (Grew.refl _) rfl
              refine ⟨fun a_ wx hR hD K hK => ?_, ?_⟩
              · have hG : Grew wr wx := (Grew.drew _).trans hR
                simp [Deps, Dep, at_, Is] at hD
                go_simp
                exact hK _ _ (Grew.refl _) rfl
              refine ⟨fun a_ wx hR hD K hK => ?_, ?_⟩
              · have hG : Grew wr wx := (Grew.drew _).trans hR
                simp [Deps, Dep, at_, Is] at hD
                go_simp
                exact hK _ _ (Grew.refl _) rfl
              refine ⟨fun a_ wx hR hD K hK => ?_, ?_⟩
              · have hG : Grew wr wx := (Grew.drew _).trans hR
                simp [Deps, Dep, at_, Is] at hD
                have e_ := pw_cell_below hG K1.out
                go_simp
                exact hK _ _ (Grew.refl _) rfl
              refine ⟨fun a_ wx hR hD K hK => ?_, ?_⟩
              · have hG : Grew wr wx := (Grew.drew _).trans hR
                simp [Deps, Dep, at_, Is] at hD
                obtain ⟨hd0, hd1⟩ := hD
                go_simp
                exact hK _ _ (Grew.refl _) rfl
              refine ⟨fun a_ wx hR hD K hK => ?_, ?_⟩
              · have hG : Grew wr wx := (Grew.drew _).trans hR
                simp [Deps, Dep, at_, Is] at hD
                go_simp
                exact hK _ _ (Grew.refl _) rfl
              refine ⟨fun a_ wx hR hD => ⟨fun hgd K hK => ?_, fun hgd => ?_⟩, ?_⟩
              · have hG : Grew wr wx := (Grew.drew _).trans hR
                clear hgd
                simp [Deps, Dep, at_, Is] at hD
                obtain ⟨hd0, hd1⟩ := hD
                go_simp
                exact hK _ _ (Grew.refl _) rfl
              · have hG : Grew wr wx := (Grew.drew _).trans hR
                exfalso
                simp [Deps, Dep, at_, Is] at hD
                simp_all
              refine ⟨fun a_ wx hR hD => ⟨fun hgd K hK => ?_, fun hgd => ?_⟩, ?_⟩
              · have hG : Grew wr wx := (Grew.drew _).trans hR
                clear hgd
                simp [Deps, Dep, at_, Is] at hD
                obtain ⟨hd0, hd1⟩ := hD
                go_simp
                exact hK _ _ (Grew.refl _) rfl
              · have hG : Grew wr wx := (Grew.drew _).trans hR
                exfalso
                simp [Deps, Dep, at_, Is] at hD
                simp_all
              refine ⟨fun a_ wx hR hD => ⟨fun hgd K hK => ?_, fun hgd => ?_⟩, ?_⟩
              · have hG : Grew wr wx := (Grew.drew _).trans hR
                clear hgd
                simp [Deps, Dep, at_, Is] at hD
                obtain ⟨hd0, hd1⟩ := hD
                go_simp
                exact hK _ _ (Grew.refl _) rfl
              · have hG : Grew wr wx := (Grew.drew _).trans hR
                exfalso
                simp [Deps, Dep, at_, Is] at hD
                simp_all
              refine ⟨fun a_ wx hR hD => ⟨fun hgd K hK => ?_, fun hgd => ?_⟩, ?_⟩
              · have hG : Grew wr wx := (Grew.drew _).trans hR
                clear hgd
                simp [Deps, Dep, at_, Is] at hD
                obtain ⟨hd0, hd1⟩ := hD
                go_simp
                exact hK _ _ (Grew.refl _) rfl
              · have hG : Grew wr wx := (Grew.drew _).trans hR
                exfalso
                simp [Deps, Dep, at_, Is] at hD
                simp_all
              refine ⟨fun a_ wx hR hD => ⟨fun hgd K hK => ?_, fun hgd => ?_⟩, ?_⟩
              · have hG : Grew wr wx := (Grew.drew _).trans hR
                clear hgd
                simp [Deps, Dep, at_, Is] at hD
                obtain ⟨hd0, hd1, hd2⟩ := hD
                go_simp
                exact hK _ _ (Grew.refl _) rfl
              · have hG : Grew wr wx := (Grew.drew _).trans hR
                exfalso
                simp [Deps, Dep, at_, Is] at hD
                simp_all
              refine ⟨fun a_ wx hR hD => ⟨fun hgd K hK => ?_, fun hgd => ?_⟩, ?_⟩
              · have hG : Grew wr wx := (Grew.drew _).trans hR
                clear hgd
                simp [Deps, Dep, at_, Is] at hD
                obtain ⟨hd0, hd1⟩ := hD
                go_simp
                exact hK _ _ (Grew.refl _) rfl
              · have hG : Grew wr wx := (Grew.drew _).trans hR
                exfalso
                simp [Deps, Dep, at_, Is] at hD
                simp_all
              refine ⟨fun a_ wx hR hD => ⟨fun hgd K hK => ?_, fun hgd => ?_⟩, ?_⟩
              · have hG : Grew wr wx := (Grew.drew _).trans hR
                exfalso
                simp [Deps, Dep, at_, Is] at hD
                simp_all
              · exact rfl
              refine ⟨fun a_ wx hR hD => ⟨fun hgd K hK => ?_, fun hgd => ?_⟩, ?_⟩
              · have hG : Grew wr wx := (Grew.drew _).trans hR
                exfalso
                simp [Deps, Dep, at_, Is] at hD
                simp_all
              · exact rfl
              refine ⟨fun a_ wx hR hD => ⟨fun hgd K hK => ?_, fun hgd => ?_⟩, ?_⟩
              · have hG : Grew wr wx := (Grew.drew _).trans hR
                exfalso
                simp [Deps, Dep, at_, Is] at hD
                simp_all
              · exact rfl
              refine ⟨fun a_ wx hR hD => ⟨fun hgd K hK => ?_, fun hgd => ?_⟩, ?_⟩
              · have hG : Grew wr wx := (Grew.drew _).trans hR
                exfalso
                simp [Deps, Dep, at_, Is] at hD
                simp_all
              · exact rfl
              refine ⟨fun a_ wx hR hD => ⟨fun hgd K hK => ?_, fun hgd => ?_⟩, ?_⟩
              · have hG : Grew wr wx := (Grew.drew _).trans hR
                exfalso
                simp [Deps, Dep, at_, Is] at hD
                simp_all
              · exact rfl
              refine ⟨fun a_ wx hR hD => ⟨fun hgd K hK => ?_, fun hgd => ?_⟩, ?_⟩
              · have hG : Grew wr wx := (Grew.drew _).trans hR
                exfalso
                simp [Deps, Dep, at_, Is] at hD
                simp_all
              · exact rfl
              refine ⟨fun a_ wx hR hD => ⟨fun hgd K hK => ?_, fun hgd => ?_⟩, ?_⟩
              · have hG : Grew wr wx := (Grew.drew _).trans hR
                exfalso
                simp [Deps, Dep, at_, Is] at hD
                simp_all
              · exact rfl
              refine ⟨fun a_ wx hR hD => ⟨fun hgd K hK => ?_, fun hgd => ?_⟩, ?_⟩
              · have hG : Grew wr wx := (Grew.drew _).trans hR
                exfalso
                simp [Deps, Dep, at_, Is] at hD
                simp_all
              · exact rfl
              refine ⟨fun a_ wx hR hD => ⟨fun hgd K hK => ?_, fun hgd => ?_⟩, ?_⟩
              · have hG : Grew wr wx := (Grew.drew _).trans hR
                clear hgd
                simp [Deps, Dep, at_, Is] at hD
                obtain ⟨hd0, hd1, hd2⟩ := hD
                go_simp
                exact hK _ _ (Grew.refl _) rfl
              · have hG : Grew wr wx := (Grew.drew _).trans hR
                exfalso
                simp [Deps, Dep, at_, Is] at hD
                simp_all
              refine ⟨fun a_ wx hR hD K hK => ?_, ?_⟩
              · have hG : Grew wr wx := (Grew.drew _).trans hR
                simp [Deps, Dep, at_, Is] at hD
                obtain ⟨hd0, hd1⟩ := hD
                go_simp
                exact hK _ _ (Grew.refl _) rfl
              refine ⟨fun a_ wx hR hD K hK => ?_, ?_⟩
              · have hG : Grew wr wx := (Grew.drew _).trans hR
                simp [Deps, Dep, at_, Is] at hD
                go_simp
                exact hK _ _ (Grew.refl _) rfl
              refine ⟨fun a_ wx hR hD => ⟨fun hgd K hK => ?_, fun hgd => ?_⟩, ?_⟩
              · have hG : Grew wr wx := (Grew.drew _).trans hR
                clear hgd
                simp [Deps, Dep, at_, Is] at hD
                obtain ⟨hd0, hd1⟩ := hD
                go_simp
                exact hK _ _ (Grew.refl _) rfl
              · have hG : Grew wr wx := (Grew.drew _).trans hR
                exfalso
                simp [Deps, Dep, at_, Is] at hD
                simp_all
              refine ⟨fun a_ wx hR hD => ⟨fun hgd K hK => ?_, fun hgd => ?_⟩, ?_⟩
              · have hG : Grew wr wx := (Grew.drew _).trans hR
                clear hgd
                simp [Deps, Dep, at_, Is] at hD
                obtain ⟨hd0, hd1⟩ := hD
                go_simp
                exact hK _ _ (Grew.refl _) rfl
              · have hG : Grew wr wx := (Grew.drew _).trans hR
                exfalso
                simp [Deps, Dep, at_, Is] at hD
                simp_all
              trivial
            · show EndHold _ _ _ _ _ _ _
              refine end_all (xs := [_, _, _, _, _, _, _, _, _, _, _, _, _, _, _, _, _, _, _, _, _, _, _, _, _, _, _, _]) ⟨rfl, rfl, rfl, rfl, rfl, rfl, rfl, rfl, rfl, rfl, rfl, rfl, rfl, rfl, rfl, rfl, rfl, rfl, rfl, rfl, rfl, rfl, rfl, rfl, rfl, rfl, rfl, rfl, trivial⟩ ?_
              rintro w2 hR1 -
              refine ⟨?_⟩
              have hG_w2 : Grew wr w2 := (Grew.drew _).trans hR1
              clear hR1
              simp only [Act.put, List.setIfInBounds_toArray, List.set_cons_succ, List.set_cons_zero, dropN, putEach]
              have hcell2 := pw_cell_below hG_w2 HCell.out
              go_wp2_with fail
              go_roundw
              case rel => exact ⟨pre ++ [c], suf, by rw [HP.out]; simp, by simp, by simp, hgr.trans hG_w2⟩
              case measure => simp [intOf]; omega
          · have d3 : decide ((pre.length : Int) < (cs.length : Int) - 1) = true := decide_eq_true (by have h7 : 0 < suf.length := List.length_pos_iff.2 hs; omega)
            have d4 : decide ((c.length : Int) < lo) = false := decide_eq_false (by have := hlo1 hs; omega)
            clear hs hlen hlo1
            go_wp2_with fail
            apply region_grew [Is _, Is _, Is _, Is _, Is _, Is _, Is _, Is _, Is _, Is _, Is _, Is _, Is _, Is _, Is _, Is _, Is _, Is _, Is _, Is _, Is _, Is _, Is _, Is _, Is _, Is _, Is _, Is _] [([(5, none)], none), ([(8, none)], none), ([(44, some 0), (45, some 1)], none), ([(46, some 2)], none), ([(47, some 3)], none), ([(3, none)], none), ([(49, some 5)], none), ([(48, some 4), (50, some 6)], none), ([(51, some 7)], none), ([(8, none), (52, some 8)], some (52, false)), ([(5, none), (52, some 8)], some (52, false)), ([(54, some 10), (52, some 8)], some (52, false)), ([(55, some 11), (52, some 8)], some (52, false)), ([(53, some 9), (56, some 12), (52, some 8)], some (52, false)), ([(57, some 13), (52, some 8)], some (52, false)), ([(5, none), (58, some 14)], some (58, true)), ([(8, none), (58, some 14)], some (58, true)), ([(59, some 15), (60, some 16), (58, some 14)], some (58, true)), ([(61, some 17), (58, some 14)], some (58, true)), ([(62, some 18), (58, some 14)], some (58, true)), ([(3, none), (58, some 14)], some (58, true)), ([(64, some 20), (58, some 14)], some (58, true)), ([(63, some 19), (65, some 21), (58, some 14)], some (58, true)), ([(58, some 14), (66, some 22), (52, some 8)], some (52, false)), ([(52, some 8), (67, some 23)], none), ([(68, some 24)], none), ([(5, none), (69, some 25)], some (69, false)), ([(8, none), (69, some 25)], some (69, false))] [(44, 0), (45, 1), (46, 2), (47, 3), (48, 4), (49, 5), (50, 6), (51, 7), (52, 8), (53, 9), (54, 10), (55, 11), (56, 12), (57, 13), (58, 14), (59, 15), (60, 16), (61, 17), (62, 18), (63, 19), (64, 20), (65, 21), (66, 22), (67, 23), (68, 24), (69, 25), (70, 26), (71, 27)] rfl (by kernel_rfl) (by kernel_rfl) (show Stable Grew _ from ⟨Is.stable _, Is.stable _, Is.stable _, Is.stable _, Is.stable _, Is.stable _, Is.stable _, Is.stable _, Is.stable _, Is.stable _, Is.stable _, Is.stable _, Is.stable _, Is.stable _, Is.stable _, Is.stable _, Is.stable _, Is.stable _, Is.stable _, Is.stable _, Is.stable _, Is.stable _, Is.stable _, Is.stable _, Is.stable _, Is.stable _, Is.stable _, Is.stable _, trivial⟩)
            · show OpsHold _ _ _ _ _ _ _ _ _
              refine ⟨fun a_ wx hR hD K hK => ?_, ?_⟩
              · have hG : Grew wr wx := (Grew.drew _).trans hR
                simp [Deps, Dep, at_, Is] at hD
                go_simp
                exact hK _ _ (Grew.refl _) rfl
              refine ⟨fun a_ wx hR hD K hK => ?_, ?_⟩
              · have hG : Grew wr wx := (Grew.drew _).trans hR
                simp [Deps, Dep, at_, Is] at hD
                go_simp
                exact hK _ _ (Grew.refl _) rfl
              refine ⟨fun a_ wx hR hD K hK => ?_, ?_⟩
              · have hG : Grew wr wx := (Grew.drew _).trans hR
                simp [Deps, Dep, at_, Is] at hD
                obtain ⟨hd0, hd1⟩ := hD
                go_simp
                exact hK _ _ (Grew.refl _) rfl
              refine ⟨fun a_ wx hR hD K hK => ?_, ?_⟩
              · have hG : Grew wr wx := (Grew.drew _).trans hR
                simp [Deps, Dep, at_, Is] at hD
                have e_ := pw_cell_below hG HCell.out
                go_simp
                exact hK _ _ (Grew.refl _) rfl
              refine ⟨fun a_ wx hR hD K hK => ?_, ?_⟩
              · have hG : Grew wr wx := (Grew.drew _).trans hR
                simp [Deps, Dep, at_, Is] at hD
                go_simp
                exact hK _ _ (Grew.refl _) rfl
              refine ⟨fun a_ wx hR hD K hK => ?_, ?_⟩
              · have hG : Grew wr wx := (Grew.drew _).trans hR
                simp [Deps, Dep, at_, Is] at hD
                go_simp
                exact hK _ _ (Grew.refl _) rfl
              refine ⟨fun a_ wx hR hD K hK => ?_, ?_⟩
              · have hG : Grew wr wx := (Grew.drew _).trans hR
                simp [Deps, Dep, at_, Is] at hD
                have e_ := pw_cell_below hG K1.out
                go_simp
                exact hK _ _ (Grew.refl _) rfl
              refine ⟨fun a_ wx hR hD K hK => ?_, ?_⟩
              · have hG : Grew wr wx := (Grew.drew _).trans hR
                simp [Deps, Dep, at_, Is] at hD
                obtain ⟨hd0, hd1⟩ := hD
                go_simp
                exact hK _ _ (Grew.refl _) rfl
              refine ⟨fun a_ wx hR hD K hK => ?_, ?_⟩
              · have hG : Grew wr wx := (Grew.drew _).trans hR
                simp [Deps, Dep, at_, Is] at hD
                go_simp
                exact hK _ _ (Grew.refl _) rfl
              refine ⟨fun a_ wx hR hD => ⟨fun hgd K hK => ?_, fun hgd => ?_⟩, ?_⟩
              · have hG : Grew wr wx := (Grew.drew _).trans hR
                clear hgd
                simp [Deps, Dep, at_, Is] at hD
                obtain ⟨hd0, hd1⟩ := hD
                go_simp
                exact hK _ _ (Grew.refl _) rfl
              · have hG : Grew wr wx := (Grew.drew _).trans hR
                exfalso
                simp [Deps, Dep, at_, Is] at hD
                simp_all
              refine ⟨fun a_ wx hR hD => ⟨fun hgd K hK => ?_, fun hgd => ?_⟩, ?_⟩
              · have hG : Grew wr wx := (Grew.drew _).trans hR
                clear hgd
                simp [Deps, Dep, at_, Is] at hD
                obtain ⟨hd0, hd1⟩ := hD
                go_simp
                exact hK _ _ (Grew.refl _) rfl
              · have hG : Grew wr wx := (Grew.drew _).trans hR
                exfalso
                simp [Deps, Dep, at_, Is] at hD
                simp_all
              refine ⟨fun a_ wx hR hD => ⟨fun hgd K hK => ?_, fun hgd => ?_⟩, ?_⟩
              · have hG : Grew wr wx := (Grew.drew _).trans hR
                clear hgd
                simp [Deps, Dep, at_, Is] at hD
                obtain ⟨hd0, hd1⟩ := hD
                go_simp
                exact hK _ _ (Grew.refl _) rfl
              · have hG : Grew wr wx := (Grew.drew _).trans hR
                exfalso
                simp [Deps, Dep, at_, Is] at hD
                simp_all
              refine ⟨fun a_ wx hR hD => ⟨fun hgd K hK => ?_, fun hgd => ?_⟩, ?_⟩
              · have hG : Grew wr wx := (Grew.drew _).trans hR
                clear hgd
                simp [Deps, Dep, at_, Is] at hD
                obtain ⟨hd0, hd1⟩ := hD
                go_simp
                exact hK _ _ (Grew.refl _) rfl
              · have hG : Grew wr wx := (Grew.drew _).trans hR
                exfalso
                simp [Deps, Dep, at_, Is] at hD
                simp_all
              refine ⟨fun a_ wx hR hD => ⟨fun hgd K hK => ?_, fun hgd => ?_⟩, ?_⟩
              · have hG : Grew wr wx := (Grew.drew _).trans hR
                clear hgd
                simp [Deps, Dep, at_, Is] at hD
                obtain ⟨hd0, hd1, hd2⟩ := hD
                go_simp
                exact hK _ _ (Grew.refl _) rfl
              · have hG : Grew wr wx := (Grew.drew _).trans hR
                exfalso
                simp [Deps, Dep, at_, Is] at hD
                simp_all
              refine ⟨fun a_ wx hR hD => ⟨fun hgd K hK => ?_, fun hgd => ?_⟩, ?_⟩
              · have hG : Grew wr wx := (Grew.drew _).trans hR
                clear hgd
                simp [Deps, Dep, at_, Is] at hD
                obtain ⟨hd0, hd1⟩ := hD
                go_simp
                exact hK _ _ (Grew.refl _) rfl
              · have hG : Grew wr wx := (Grew.drew _).trans hR
                exfalso
                simp [Deps, Dep, at_, Is] at hD
                simp_all
              refine ⟨fun a_ wx hR hD => ⟨fun hgd K hK => ?_, fun hgd => ?_⟩, ?_⟩
              · have hG : Grew wr wx := (Grew.drew _).trans hR
                clear hgd
                simp [Deps, Dep, at_, Is] at hD
                obtain ⟨hd0, hd1⟩ := hD
                go_simp
                exact hK _ _ (Grew.refl _) rfl
              · have hG : Grew wr wx := (Grew.drew _).trans hR
                exfalso
                simp [Deps, Dep, at_, Is] at hD
                simp_all
              refine ⟨fun a_ wx hR hD => ⟨fun hgd K hK => ?_, fun hgd => ?_⟩, ?_⟩
              · have hG : Grew wr wx := (Grew.drew _).trans hR
                clear hgd
                simp [Deps, Dep, at_, Is] at hD
                obtain ⟨hd0, hd1⟩ := hD
                go_simp
                exact hK _ _ (Grew.refl _) rfl
              · have hG : Grew wr wx := (Grew.drew _).trans hR
                exfalso
                simp [Deps, Dep, at_, Is] at hD
                simp_all
              refine ⟨fun a_ wx hR hD => ⟨fun hgd K hK => ?_, fun hgd => ?_⟩, ?_⟩
              · have hG : Grew wr wx := (Grew.drew _).trans hR
                clear hgd
                simp [Deps, Dep, at_, Is] at hD
                obtain ⟨hd0, hd1, hd2⟩ := hD
                go_simp
                exact hK _ _ (Grew.refl _) rfl
              · have hG : Grew wr wx := (Grew.drew _).trans hR
                exfalso
                simp [Deps, Dep, at_, Is] at hD
                simp_all
              refine ⟨fun a_ wx hR hD => ⟨fun hgd K hK => ?_, fun hgd => ?_⟩, ?_⟩
              · have hG : Grew wr wx := (Grew.drew _).trans hR
                clear hgd
                simp [Deps, Dep, at_, Is] at hD
                obtain ⟨hd0, hd1⟩ := hD
                have e_ := pw_cell_below hG HCell.out
                go_simp
                exact hK _ _ (Grew.refl _) rfl
              · have hG : Grew wr wx := (Grew.drew _).trans hR
                exfalso
                simp [Deps, Dep, at_, Is] at hD
                simp_all
              refine ⟨fun a_ wx hR hD => ⟨fun hgd K hK => ?_, fun hgd => ?_⟩, ?_⟩
              · have hG : Grew wr wx := (Grew.drew _).trans hR
                clear hgd
                simp [Deps, Dep, at_, Is] at hD
                obtain ⟨hd0, hd1⟩ := hD
                go_simp
                exact hK _ _ (Grew.refl _) rfl
              · have hG : Grew wr wx := (Grew.drew _).trans hR
                exfalso
                simp [Deps, Dep, at_, Is] at hD
                simp_all
              refine ⟨fun a_ wx hR hD => ⟨fun hgd K hK => ?_, fun hgd => ?_⟩, ?_⟩
              · have hG : Grew wr wx := (Grew.drew _).trans hR
                clear hgd
                simp [Deps, Dep, at_, Is] at hD
                obtain ⟨hd0, hd1⟩ := hD
                go_simp
                exact hK _ _ (Grew.refl _) rfl
              · have hG : Grew wr wx := (Grew.drew _).trans hR
                exfalso
                simp [Deps, Dep, at_, Is] at hD
                simp_all
              refine ⟨fun a_ wx hR hD => ⟨fun hgd K hK => ?_, fun hgd => ?_⟩, ?_⟩
              · have hG : Grew wr wx := (Grew.drew _).trans hR
                clear hgd
                simp [Deps, Dep, at_, Is] at hD
                obtain ⟨hd0, hd1⟩ := hD
                have e_ := pw_cell_below hG K0.out
                go_simp
                exact hK _ _ (Grew.refl _) rfl
              · have hG : Grew wr wx := (Grew.drew _).trans hR
                exfalso
                simp [Deps, Dep, at_, Is] at hD
                simp_all
              refine ⟨fun a_ wx hR hD => ⟨fun hgd K hK => ?_, fun hgd => ?_⟩, ?_⟩
              · have hG : Grew wr wx := (Grew.drew _).trans hR
                clear hgd
                simp [Deps, Dep, at_, Is] at hD
                obtain ⟨hd0, hd1, hd2⟩ := hD
                go_simp
                exact hK _ _ (Grew.refl _) rfl
              · have hG : Grew wr wx := (Grew.drew _).trans hR
                exfalso
                simp [Deps, Dep, at_, Is] at hD
                simp_all
              refine ⟨fun a_ wx hR hD => ⟨fun hgd K hK => ?_, fun hgd => ?_⟩, ?_⟩
              · have hG : Grew wr wx := (Grew.drew _).trans hR
                clear hgd
                simp [Deps, Dep, at_, Is] at hD
                obtain ⟨hd0, hd1, hd2⟩ := hD
                go_simp
                exact hK _ _ (Grew.refl _) rfl
              · have hG : Grew wr wx := (Grew.drew _).trans hR
                exfalso
                simp [Deps, Dep, at_, Is] at hD
                simp_all
              refine ⟨fun a_ wx hR hD K hK => ?_, ?_⟩
              · have hG : Grew wr wx := (Grew.drew _).trans hR
                simp [Deps, Dep, at_, Is] at hD
                obtain ⟨hd0, hd1⟩ := hD
                go_simp
                exact hK _ _ (Grew.refl _) rfl
              refine ⟨fun a_ wx hR hD K hK => ?_, ?_⟩
              · have hG : Grew wr wx := (Grew.drew _).trans hR
                simp [Deps, Dep, at_, Is] at hD
                go_simp
                exact hK _ _ (Grew.refl _) rfl
              refine ⟨fun a_ wx hR hD => ⟨fun hgd K hK => ?_, fun hgd => ?_⟩, ?_⟩
              · have hG : Grew wr wx := (Grew.drew _).trans hR
                clear hgd
                simp [Deps, Dep, at_, Is] at hD
                obtain ⟨hd0, hd1⟩ := hD
                go_simp
                exact hK _ _ (Grew.refl _) rfl
              · have hG : Grew wr wx := (Grew.drew _).trans hR
                exfalso
                simp [Deps, Dep, at_, Is] at hD
                simp_all
              refine ⟨fun a_ wx hR hD => ⟨fun hgd K hK => ?_, fun hgd => ?_⟩, ?_⟩
              · have hG : Grew wr wx := (Grew.drew _).trans hR
                clear hgd
                simp [Deps, Dep, at_, Is] at hD
                obtain ⟨hd0, hd1⟩ := hD
                go_simp
                exact hK _ _ (Grew.refl _) rfl
              · have hG : Grew wr wx := (Grew.drew _).trans hR
                exfalso
                simp [Deps, Dep, at_, Is] at hD
                simp_all
              trivial
            · show EndHold _ _ _ _ _ _ _
              refine end_all (xs := [_, _, _, _, _, _, _, _, _, _, _, _, _, _, _, _, _, _, _, _, _, _, _, _, _, _, _, _]) ⟨rfl, rfl, rfl, rfl, rfl, rfl, rfl, rfl, rfl, rfl, rfl, rfl, rfl, rfl, rfl, rfl, rfl, rfl, rfl, rfl, rfl, rfl, rfl, rfl, rfl, rfl, rfl, rfl, trivial⟩ ?_
              rintro w2 hR1 -
              refine ⟨?_⟩
              have hG_w2 : Grew wr w2 := (Grew.drew _).trans hR1
              clear hR1
              simp only [Act.put, List.setIfInBounds_toArray, List.set_cons_succ, List.set_cons_zero, dropN, putEach]
              have hcell2 := pw_cell_below hG_w2 HCell.out
              go_wp2_with fail
              go_roundw
              case rel => exact ⟨pre ++ [c], suf, by rw [HP.out]; simp, by simp, by simp, hgr.trans hG_w2⟩
              case measure => simp [intOf]; omega
    · have HC := Lib.hid (fun w => cut_no t lo hi bits w hm)
      have hmy := fun w => lmay_c lo hi bits w
      rw [decide_eq_false hm] at hmy
      have HMy := Lib.hid hmy
      clear hm hmy
      go_enter Try.func4, Try.ntmps4
      go_wp2_with fail
      refine (HC.out _).mono ?_
      rintro e w1 ⟨_, rfl, rfl, hg1⟩
      have hb1 := HB0.out.grew hg1
      have k0 := hb1.at_ 0
      have k1 := hb1.at_ 1
      have k2 := hb1.at_ 2
      simp only [List.getElem?_cons_succ, List.getElem?_cons_zero] at k0 k1 k2
      go_wp2_with fail
      refine (HMy.out _).mono ?_
      rintro e w3 ⟨_, rfl, rfl, hg3⟩
      go_wp2_with fail
      refine (lives_c _).mono ?_
      rintro e w6 ⟨_, rfl, rfl, hg6⟩
      go_wp2
      go_ret
      exact ⟨_, rfl, rfl, (Grew.alloc _ _).trans (hg1.trans (hg3.trans hg6))⟩
end Go.Proofs.Ytaeobiilihklhaa.F

-- ChunkPieces
namespace Go.Proofs.Ytaeobiilihklhaa.F
open Go Go.RowKit Go.Proofs.YtaeobiilihklhaaW.PrintWords Go.Proofs.YtaeobiilihklhaaW.PrintLast Go.Proofs.YtaeobiilihklhaaW.PrintMore Go.Proofs.YtaeobiilihklhaaM Go.Proofs.YtaeobiilihklhaaR
set_option linter.unusedSimpArgs false
set_option linter.unusedVariables false
set_option maxRecDepth 100000
theorem rows_cell {w : World} {A : Option Addr} {n e : Nat} {x : List (List Int)} (h : Kd.C (Kd.slice e (Kd.int .u8)) w A n x) (i : Nat) (hi : i < n) :
    ∃ ad A' c', A = some ad ∧ w.cell? (ad.add i) = some (.slice A' (x.getD i []).length c') ∧ (x.getD i []).length ≤ c' ∧ Kd.C (Kd.int .u8) w A' (x.getD i []).length (x.getD i []) := by
  obtain ⟨ad, c, hA, hs, ⟨A', c', hc, hl, hC⟩, hcell⟩ := ReadsRow.get_ h [] (i : Int) (by omega) (by omega)
  rw [Int.toNat_natCast] at hc hl hC hcell
  have := hcell 0 (.slice A' (x.getD i []).length c') (by rw [hc]; rfl)
  refine ⟨ad, A', c', hA, ?_, hl, hC⟩
  rw [show i * (Kd.int .u8 |> Kd.slice e).sz + 0 = i from by simp [Kd.slice]] at this
  exact this
theorem flat_le {n : Nat} : ∀ ls : List (List Int), (∀ l ∈ ls, l.length ≤ n) → ls.flatten.length ≤ n * ls.length
  | [], _ => by simp
  | l :: ls, h => by
    have h1 := flat_le ls (fun m hm => h m (by simp [hm]))
    have h2 := h l (by simp)
    rw [List.flatten_cons, List.length_append, List.length_cons, Nat.mul_add]; omega
theorem strs_app (a b : List (List Int)) : strs (a ++ b) = strs a ++ strs b := by simp [strs]
/-- what CS allows lies behind the mark -/
theorem Cut.low {gc g gb : Nat} {lo hi bits : Int} {s b : List Int} {vb : Value} {B : Nat} {w : World} (h : Cut gc g gb lo hi bits s b vb B w) : ∀ k, CS gc g gb vb k → B ≤ k := by
  rintro k (rfl | rfl | rfl | hk)
  · exact h.b1
  · exact h.b2
  · exact h.b3
  · exact own_base h.row k hk
theorem finish_run {lo hi bits : Int} {l : List Int} {got : List (List Int)} {s b : List Int} (h : cutRun lo hi bits [] [] l [] = (got, s, b)) : chunksL lo hi bits l = got ++ opt b := by
  unfold chunksL finish; rw [h]
set_option maxHeartbeats 8000000 in
theorem ChunkPieces_c (w : World) (A : Option Addr) (c : Nat) (l : List (List Int)) (lo hi bits : Int) (hr : Kd.C (Kd.slice 5 (Kd.int .u8)) w A l.length l) (hc : l.length ≤ c) (hok : ∀ x ∈ l, ∀ y ∈ x, (Lit.int .u8 y).wf = true) (_h0 : (Lit.int .i64 lo).wf = true) (_h1 : (Lit.int .i64 hi).wf = true) (_h2 : (Lit.int .i64 bits).wf = true) :
    Calls Try.prog 6 #[.slice A l.length c, .agg #[.int .i64 lo, .int .i64 hi, .int .i64 bits]] w (Tells w (Is (.bool true))) := by
  clear _h0 _h1 _h2
  have HOk := Lib.hid (fun x hx => bytes_of (hok x hx))
  clear hok
  by_cases hm : mayM lo hi bits
  · have HN := Lib.hid (fun w => cnew_c lo hi bits w hm)
    have HM := Lib.hid hm
    have hi1 : (0 : Int) < hi := by have h1 := hm.1; have h2 := hm.2.1; omega
    have HC := Lib.hid (fun (t : ByteArray) (ht : t.size ≤ 100000) w => cut_c t lo hi bits w hm ht)
    clear hm
    go_enter Try.func6, Try.ntmps6
    go_wp2_with fail
    refine (HN.out _).mono ?_
    rintro e w1 ⟨_, rfl, ⟨gc, g, gb, rfl, hcut⟩, hg1⟩
    have hb1 := (Blk.new w 23 [.int .i64 lo, .int .i64 hi, .int .i64 bits]).grew hg1
    obtain ⟨B, hB⟩ : ∃ B, B = (w.alloc (Obj.cells #[Value.int IntKind.i64 lo, Value.int IntKind.i64 hi, Value.int IntKind.i64 bits] 23)).heap.size := ⟨_, rfl⟩
    rw [← hB] at hcut
    have hB1 : B = w.heap.size + 1 := by rw [hB]; simp
    have hBw : w.heap.size + 1 ≤ B := by omega
    have hgw1 : Grew w w1 := (Grew.alloc _ _).trans hg1
    have hB2 : B ≤ w1.heap.size := by rw [hB]; exact hg1.size
    have HB1 := Lib.hid (fun w' (h : Below B w1 w') => show Blk w' w.heap.size 23 [.int .i64 lo, .int .i64 hi, .int .i64 bits] from (h.block w.heap.size (by omega)).trans hb1)
    have HFin := Lib.hid (fun w' (h : Below B w1 w') => show Grew w w' from Below.trans hgw1 (h.mono (by omega)))
    clear hb1 hB hB1 hg1
    go_wp2_with fail
    go_loopw [7] (fun iv wr => ∃ (r : Nat) (vb : Value), iv = .int .i64 (r : Int) ∧ r ≤ 2 ∧ Cut gc g gb lo hi bits [] [] vb B wr ∧ Below B w1 wr) (fun iv _ => 2 - (intOf iv).toNat)
    case atStart => exact ⟨0, _, rfl, by omega, hcut, Below.refl _ _⟩
    case round =>
      obtain ⟨r, vb, rfl, hr2, hcr, hbr⟩ := hrel
      clear hcut
      by_cases hlt : (r : Int) < 2
      · obtain ⟨w2, rfl⟩ : ∃ w2 : World, w2 = wr := ⟨_, rfl⟩
        go_wp2_with fail
        go_loopw [8, 9, 10] (fun gv tv iv wr => ∃ (pre suf got : List (List Int)) (s b : List Int) (vb' v8 : Value), gv = v8 ∧ l = pre ++ suf ∧ iv = .int .i64 (pre.length : Int) ∧ tv = .string (strOfNums pre.flatten) ∧ pre.length ≤ 30 ∧ (∀ x ∈ pre, x.length ≤ 500) ∧ cutRun lo hi bits [] [] pre.flatten [] = (got, s, b) ∧ wr.ownsRow B 9 1 v8 got.length (encs Value.string (strs got)) ∧ Cut gc g gb lo hi bits s b vb' B wr ∧ Below B w1 wr) (fun _ _ iv _ => l.length - (intOf iv).toNat)
        case atStart => exact ⟨[], l, [], [], [], vb, _, rfl, rfl, rfl, rfl, by simp, by simp, rfl, own_nil _ _ _ _, hcr, hbr⟩
        case round =>
          obtain ⟨pre, suf, got, s, b, vb', v8, rfl, hp, rfl, rfl, h30, h500, hrun, hown, hcut, hbel⟩ := hrel
          have HP := Lib.hid hp
          clear hcr hbr
          rcases suf with _ | ⟨x, suf⟩
          · have hlen : l.length = pre.length := by rw [hp]; simp
            have d2 : decide (pre.length < l.length) = false := decide_eq_false (by omega)
            clear hp hlen
            have hfin := finish_run hrun
            have hbyt : ∀ z ∈ pre.flatten, 0 ≤ z ∧ z < 256 := fun z hz => by
              obtain ⟨q, hq, hzq⟩ := List.mem_flatten.1 hz
              exact HOk.out q (by rw [HP.out]; simp [hq]) z hzq
            have hsz := flat_le pre h500
            have hsz2 : (strOfNums pre.flatten).size ≤ 100000 := by rw [str_size]; omega
            have HCt := Lib.hid (HC.out (strOfNums pre.flatten) hsz2)
            rw [bytesOf_str hbyt, hfin] at HCt
            have HCut := Lib.hid hcut
            have hgl : got.length ≤ 20000 := by
              have := cutRun_len lo hi bits pre.flatten [] [] []
              rw [hrun] at this
              simp only [List.length_nil] at this
              omega
            clear hfin hrun hbyt hsz hsz2
            go_wp2_with fail
            refine (end_c wr HCut.out).mono ?_
            rintro e w3 ⟨_, rfl, ⟨rfl, vb4, hcut4, hfr4⟩, hu3⟩
            have hown3 := hu3.own hown (hcut.own_far hown (by decide) (by decide) (by decide))
            have hbel3 : Below B w1 w3 := Below.trans hbel (hu3.below (Nat.le_trans hB2 hbel.size) hcut.low)
            have Hown3 := Lib.hid hown3
            clear hown3 hown hfr4 hu3 HCut hcut hbel
            rcases b with _ | ⟨y, bl⟩
            · have hd : (!([] : List Int).isEmpty) = false := rfl
              have hse : strOfNums [] = ⟨#[]⟩ := rfl
              rw [hd, hse]
              go_wp2_with fail
              refine (left_c w3 hcut4).mono ?_
              rintro e w4 ⟨_, rfl, rfl, hg4⟩
              have hbel4 : Below B w1 w4 := Below.trans hbel3 (hg4.mono (Nat.le_trans hB2 hbel3.size))
              have hb4 := HB1.out w4 hbel4
              have k0 := hb4.at_ 0
              have k1 := hb4.at_ 1
              have k2 := hb4.at_ 2
              simp only [List.getElem?_cons_succ, List.getElem?_cons_zero] at k0 k1 k2
              have hll : (([] : List Int).length : Int) = 0 := rfl
              rw [hll]
              go_wp2_with fail
              refine (HCt.out w4).mono ?_
              rintro e w5 ⟨_, rfl, ⟨v5, rfl, hown5⟩, hg5⟩
              have hbel5 : Below B w1 w5 := Below.trans hbel4 (hg5.mono (Nat.le_trans hB2 hbel4.size))
              have hcut5 := (hcut4.grew hg4).grew hg5
              simp only [opt, List.append_nil] at hown5
              rw [strs_len] at hown5
              obtain ⟨A5, c5, rfl, -, hc5, hC5⟩ := own_strs hown5
              obtain ⟨A8, c8, rfl, -, hc8, hC8⟩ := own_strs (pw_own_below Hown3.out (hg4.trans hg5))
              have hS := same_c A8 c8 A5 c5 (strs got) w5 (by rw [strs_len]; exact hC8) (by rw [strs_len]; exact hc8) (by rw [strs_len]; exact hC5) (by rw [strs_len]; exact hc5) (by rw [strs_len]; omega)
              rw [strs_len] at hS
              have HS := Lib.hid hS
              clear hS hC5 hC8 hown5 k0 k1 k2 hb4
              go_wp2_with fail
              refine HS.out.mono ?_
              rintro e w6 ⟨_, rfl, rfl, hg6⟩
              go_wp2_with fail
              go_roundw
              case rel => exact ⟨r + 1, vb4, by go_num, by omega, hcut5.grew hg6, Below.trans hbel5 (hg6.mono (Nat.le_trans hB2 hbel5.size))⟩
              case measure => simp [intOf]; omega
            · have hd : (!(y :: bl).isEmpty) = true := rfl
              have hne1 : (strOfNums (y :: bl)).toList.isEmpty = false := by rw [str_empty]; rfl
              have hne2 : ¬ (strOfNums (y :: bl)).toList = [] := by simpa using hne1
              rw [hd]
              go_wp2_with fail
              refine (left_c w3 hcut4).mono ?_
              rintro e w4 ⟨_, rfl, rfl, hg4⟩
              have hbel4 : Below B w1 w4 := Below.trans hbel3 (hg4.mono (Nat.le_trans hB2 hbel3.size))
              have hll : (([] : List Int).length : Int) = 0 := rfl
              rw [hll]
              have hown4 := pw_own_below Hown3.out hg4
              obtain ⟨vn, wn, hrn, hown8, hgr8, hat8⟩ := app_row (P := Try.prog) Value.string ByteArray.empty (fun _ => rfl) (w4.alloc (.cells #[.string (strOfNums (y :: bl))] 9)) B 25 9 25 (.string ⟨#[]⟩) 16 Try.underlying25 info9 rfl (by decide) _ (strs got) [strOfNums (y :: bl)] _ 1 1 (by rw [strs_len]; exact hown4.alloc _) ((Blk.new w4 9 (encs Value.string [strOfNums (y :: bl)])).reads_of (by simp)) (by have h1 := hbel4.size; simp; omega) (by rw [strs_len]; omega)
              have hU8 := Upd.of_alloc_grown hgr8
              have hcut8 := (hcut4.grew hg4).upd hU8 (fun k hk h => (hcut4.grew hg4).own_far hown4 (by decide) (by decide) (by decide) k h hk)
              have hbel8 : Below B w1 wn := Below.trans hbel4 (hU8.below (Nat.le_trans hB2 hbel4.size) (fun k hk => own_base hown4 k hk))
              have hb8 := HB1.out wn hbel8
              have k0 := hb8.at_ 0
              have k1 := hb8.at_ 1
              have k2 := hb8.at_ 2
              simp only [List.getElem?_cons_succ, List.getElem?_cons_zero] at k0 k1 k2
              have Hown8 := Lib.hid hown8
              clear hown8 hown4 hU8 hgr8 hat8 hb8
              go_wp2_with (at_builtin; refine wpList_app (by rfl) (.tmp 112) (.tmp 114) 25 (by rfl) (by rfl) (by rfl) hrn ?_)
              refine (HCt.out wn).mono ?_
              rintro e w5 ⟨_, rfl, ⟨v5, rfl, hown5⟩, hg5⟩
              have hbel5 : Below B w1 w5 := Below.trans hbel8 (hg5.mono (Nat.le_trans hB2 hbel8.size))
              have hcut5 := hcut8.grew hg5
              have e1 : strs got ++ [strOfNums (y :: bl)] = strs (got ++ opt (y :: bl)) := by simp [strs, opt]
              have hown9 := pw_own_below Hown8.out hg5
              rw [e1] at hown9
              obtain ⟨A5, c5, rfl, -, hc5, hC5⟩ := own_strs hown5
              obtain ⟨A8, c8, rfl, -, hc8, hC8⟩ := own_strs hown9
              have HS := Lib.hid (same_c A8 c8 A5 c5 (strs (got ++ opt (y :: bl))) w5 hC8 hc8 hC5 hc5 (by rw [strs_len, List.length_append]; have := opt_len (y :: bl); omega))
              clear hC5 hC8 hown5 hown9 k0 k1 k2 hrn
              go_wp2_with fail
              refine HS.out.mono ?_
              rintro e w6 ⟨_, rfl, rfl, hg6⟩
              go_wp2_with fail
              go_roundw
              case rel => exact ⟨r + 1, vb4, by go_num, by omega, hcut5.grew hg6, Below.trans hbel5 (hg6.mono (Nat.le_trans hB2 hbel5.size))⟩
              case measure => simp [intOf]; omega
          · have hlen : l.length = pre.length + suf.length + 1 := by rw [hp]; simp; omega
            have d2 : decide (pre.length < l.length) = true := decide_eq_true (by omega)
            by_cases hlt3 : (pre.length : Int) < 30
            · have hx : l.getD pre.length [] = x := by rw [hp]; simp [List.getD]
              have hxl : x ∈ l := by rw [hp]; simp
              have hxb := HOk.out x hxl
              have hltl : pre.length < l.length := by omega
              obtain ⟨ad, Ax, cx, rfl, hcell, hcx, hCx⟩ := rows_cell hr pre.length hltl
              rw [hx] at hcell hcx hCx
              replace hcell := pw_cell_below (HFin.out wr hbel) hcell
              have HXB := Lib.hid hxb
              clear hp hx hxl hxb
              by_cases h5 : 500 < x.length
              · have d5 : decide (500 < x.length) = true := decide_eq_true h5
                go_wp2_with fail
                refine (lives_c _).mono ?_
                rintro e w3 ⟨_, rfl, rfl, hg3⟩
                go_wp2
                go_ret
                exact ⟨_, rfl, rfl, (HFin.out _ hbel).trans hg3⟩
              · have d5 : decide (500 < x.length) = false := decide_eq_false h5
                clear hlen
                have hcv := Kd.C_string (P := Try.prog) (c := cx) Try.underlying42 Try.underlying5 Try.underlying9 (Kd.C_below hCx (HFin.out wr hbel))
                have happ : strOfNums pre.flatten ++ strOfNums x = strOfNums (pre ++ [x]).flatten := by rw [str_app]; simp
                have hpf := flat_le pre h500
                have hz1 : (strOfNums pre.flatten).size = pre.flatten.length := str_size _
                have hz2 : (strOfNums x).size = x.length := str_size _
                have hpl : pre.flatten.length ≤ 15000 := by omega
                have hbl : (b.length : Int) < hi := by
                  have := cutRun_wait HM.out pre.flatten [] [] [] (by simpa using hi1)
                  rw [hrun] at this; exact this
                obtain ⟨res, hres⟩ : ∃ res, res = cutRun lo hi bits s b x [] := ⟨_, rfl⟩
                have hrun2 : cutRun lo hi bits [] [] (pre ++ [x]).flatten [] = (got ++ res.1, res.2.1, res.2.2) := by
                  rw [show (pre ++ [x]).flatten = pre.flatten ++ x from by simp, cutRun_append, hrun, cutRun_acc, hres]
                have hWr := write_c wr Ax cx x hcut HM.out hbl (Nat.le_trans hB2 hbel.size) (fun w' hu => Kd.C_below hCx (HFin.out w' (Below.trans hbel (hu.below (Nat.le_trans hB2 hbel.size) hcut.low)))) hcx (by omega) HXB.out
                rw [← hres] at hWr
                have HWr := Lib.hid hWr
                have hflat := cutRun_flat lo hi bits (pre ++ [x]).flatten [] [] []
                rw [hrun2] at hflat
                have hfl := congrArg List.length hflat
                have hbl2 : (res.2.2.length : Int) < hi := by
                  have := cutRun_wait HM.out (pre ++ [x]).flatten [] [] [] (by simpa using hi1)
                  rw [hrun2] at this; exact this
                have hlr := cutRun_len lo hi bits (pre ++ [x]).flatten [] [] []
                rw [hrun2] at hlr
                have hpx : (pre ++ [x]).flatten.length = pre.flatten.length + x.length := by simp
                simp only [List.flatten_nil, List.nil_append, List.length_nil, Nat.zero_add, List.length_append] at hlr hfl
                rw [show (pre ++ [x]).flatten = pre.flatten ++ x from by simp, List.length_append] at hlr hfl
                have c4 := hcut.cells.at_ 4
                have c0 := hcell
                have HHap := Lib.hid happ
                have HRun2 := Lib.hid hrun2
                have HFl := Lib.hid hfl
                have HLr := Lib.hid hlr
                have HRes := Lib.hid hres
                clear hWr hrun2 hflat hres hfl hlr hpx c4 hrun hpf
                go_wp2_with fail
                refine HWr.out.mono ?_
                rintro e w3 ⟨v3, rfl, ⟨hown3, vb3, hcut3, hfr3⟩, hu3⟩
                have hbel3 : Below B w1 w3 := Below.trans hbel (hu3.below (Nat.le_trans hB2 hbel.size) hcut.low)
                have hgot3 := hu3.own hown (hcut.own_far hown (by decide) (by decide) (by decide))
                obtain ⟨A3, c3, rfl, _, hc3, hC3⟩ := own_strs hown3
                obtain ⟨vn, wn, hrn, hown8, hgr8, hat8⟩ := app_row (P := Try.prog) Value.string ByteArray.empty (fun _ => rfl) w3 B 25 9 25 (.string ⟨#[]⟩) 16 Try.underlying25 info9 rfl (by decide) _ (strs got) (strs res.1) A3 res.1.length c3 (by rw [strs_len]; exact hgot3) (Kd.reads_of_C (enc := Value.string) (d := ByteArray.empty) (h1 := fun _ => rfl) hC3) (Nat.le_trans hB2 hbel3.size) (by have := HLr.out; rw [strs_len]; omega)
                have hU8 := Upd.of_grown hgr8
                have hcut8 := hcut3.upd hU8 (fun k hk h => hcut3.own_far hgot3 (by decide) (by decide) (by decide) k h hk)
                have hbel8 : Below B w1 wn := Below.trans hbel3 (hU8.below (Nat.le_trans hB2 hbel3.size) (fun k hk => own_base hgot3 k hk))
                rw [← strs_app, strs_len] at hown8
                obtain ⟨g2, hg2⟩ : ∃ g2, g2 = got ++ res.1 := ⟨_, rfl⟩
                rw [← hg2] at hown8 HRun2
                obtain ⟨A8, c8, rfl, _, hc8, hC8⟩ := own_strs hown8
                have hgl2 : g2.length ≤ 20000 := by have := HLr.out; rw [hg2, List.length_append]; omega
                have hgf2 : g2.flatten.length + res.2.2.length = pre.flatten.length + x.length := by
                  have := HFl.out
                  rw [hg2]; omega
                have HG2 := Lib.hid hg2
                have HCut8 := Lib.hid hcut8
                have HC8 := Lib.hid hC8
                have HOwn8 := Lib.hid hown8
                clear hg2 hU8 hcut3 hgot3 hC3 hown3 hgr8 hat8 hu3 hfr3 hcut hown hcut8 hC8 hown8 hcell hCx hcv happ c0 HWr
                go_wp2_with (at_builtin; refine wpList_app (by rfl) (.tmp 62) (.tmp 68) 25 (by rfl) (by rfl) (by rfl) hrn ?_)
                obtain ⟨wo, rfl⟩ : ∃ wo : World, wo = wr := ⟨_, rfl⟩
                obtain ⟨F, hF⟩ : ∃ F : List (List Int) → Nat, F = fun p => p.flatten.length := ⟨_, rfl⟩
                have hF0 : F [] = 0 := by rw [hF]; rfl
                have hFs : ∀ p q, F (p ++ [q]) = F p + q.length := by intro p q; rw [hF]; simp
                have hFg : F g2 + res.2.2.length = pre.flatten.length + x.length := by rw [hF]; exact hgf2
                have HFl2 := Lib.hid hFg
                have HFs := Lib.hid hFs
                have HF := Lib.hid hF
                have hFap : ∀ p q s, F (p ++ q :: s) = F p + q.length + F s := by intro p q s; rw [hF]; simp; omega
                have HFap := Lib.hid hFap
                clear hgf2 hF hFs hFg hFap
                go_loopw [11, 12] (fun nv kv wq => ∃ (p2 s2 : List (List Int)), g2 = p2 ++ s2 ∧ kv = .int .i64 (p2.length : Int) ∧ nv = .int .i64 (F p2 : Int) ∧ Grew wn wq) (fun _ kv _ => g2.length - (intOf kv).toNat)
                case atStart => exact ⟨[], g2, rfl, rfl, by rw [hF0]; rfl, Grew.refl _⟩
                case round =>
                  obtain ⟨p2, s2, hp2, rfl, rfl, hgq⟩ := hrel
                  have HP2 := Lib.hid hp2
                  rcases s2 with _ | ⟨q, s2⟩
                  · have hl2 : g2.length = p2.length := by rw [hp2]; simp
                    have hp2' : p2 = g2 := by rw [hp2]; simp
                    subst hp2'
                    have d6 : decide (p2.length < p2.length) = false := decide_eq_false (by omega)
                    have d7 : decide (hi ≤ (res.2.2.length : Int)) = false := decide_eq_false (by omega)
                    have hcq := HCut8.out.grew hgq
                    have hbq : Below B w1 wr := Below.trans hbel8 (hgq.mono (Nat.le_trans hB2 hbel8.size))
                    have K1 := Lib.hid ((HB1.out wr hbq).at_ 1)
                    obtain ⟨tx, htx⟩ : ∃ tx, tx = strOfNums (pre.flatten ++ x) := ⟨_, rfl⟩
                    rw [← htx]
                    have HTx := Lib.hid htx
                    have e7 : IntKind.i64.wrap ((F p2 : Int) + (res.2.2.length : Int)) = (tx.size : Int) := by
                      have := HFl2.out
                      rw [IntWalk.i64_in _ (by omega), HTx.out, str_size, List.length_append]
                      omega
                    have E7 := Lib.hid e7
                    have HCq := Lib.hid hcq
                    have HBq := Lib.hid hbq
                    have HGq := Lib.hid hgq
                    clear hp2 hl2 hcq htx e7 hbq hgq
                    go_wp2_with fail
                    apply region_grew [Is _, Is _, Is _, Is _, Is _, Is _, Is _, Is _, Is _, Is _, Is _, Is _] [([(5, none)], none), ([(83, some 0)], none), ([(3, none)], none), ([(85, some 2)], none), ([(84, some 1), (86, some 3)], none), ([(87, some 4)], none), ([(11, none), (88, some 5)], some (88, false)), ([(5, none), (88, some 5)], some (88, false)), ([(90, some 7), (88, some 5)], some (88, false)), ([(89, some 6), (91, some 8), (88, some 5)], some (88, false)), ([(9, none), (88, some 5)], some (88, false)), ([(93, some 10), (88, some 5)], some (88, false))] [(83, 0), (84, 1), (85, 2), (86, 3), (87, 4), (88, 5), (89, 6), (90, 7), (91, 8), (92, 9), (93, 10), (94, 11)] rfl (by kernel_rfl) (by kernel_rfl) (show Stable Grew _ from ⟨Is.stable _, Is.stable _, Is.stable _, Is.stable _, Is.stable _, Is.stable _, Is.stable _, Is.stable _, Is.stable _, Is.stable _, Is.stable _, Is.stable _, trivial⟩)
                    · show OpsHold _ _ _ _ _ _ _ _ _
                      refine ⟨fun a_ wx hR hD K hK => ?_, ?_⟩
                      · have hG : Grew wr wx := (Grew.drew _).trans hR
                        simp [Deps, Dep, at_, Is] at hD
                        go_simp
                        exact hK _ _ (Grew.refl _) rfl
                      refine ⟨fun a_ wx hR hD K hK => ?_, ?_⟩
                      · have hG : Grew wr wx := (Grew.drew _).trans hR
                        simp [Deps, Dep, at_, Is] at hD
                        go_simp
                        have hcn := left_c wx (HCq.out.grew hG)
                        with_reducible refine hcn.mono ?_
                        clear hcn
                        rintro e wy ⟨v, rfl, hv, hg⟩
                        exact hK _ _ hg hv
                      refine ⟨fun a_ wx hR hD K hK => ?_, ?_⟩
                      · have hG : Grew wr wx := (Grew.drew _).trans hR
                        simp [Deps, Dep, at_, Is] at hD
                        go_simp
                        exact hK _ _ (Grew.refl _) rfl
                      refine ⟨fun a_ wx hR hD K hK => ?_, ?_⟩
                      · have hG : Grew wr wx := (Grew.drew _).trans hR
                        simp [Deps, Dep, at_, Is] at hD
                        have e_ := pw_cell_below hG K1.out
                        go_simp
                        exact hK _ _ (Grew.refl _) rfl
                      refine ⟨fun a_ wx hR hD K hK => ?_, ?_⟩
                      · have hG : Grew wr wx := (Grew.drew _).trans hR
                        simp [Deps, Dep, at_, Is] at hD
                        obtain ⟨hd0, hd1⟩ := hD
                        go_simp
                        exact hK _ _ (Grew.refl _) rfl
                      refine ⟨fun a_ wx hR hD K hK => ?_, ?_⟩
                      · have hG : Grew wr wx := (Grew.drew _).trans hR
                        simp [Deps, Dep, at_, Is] at hD
                        go_simp
                        exact hK _ _ (Grew.refl _) rfl
                      refine ⟨fun a_ wx hR hD => ⟨fun hgd K hK => ?_, fun hgd => ?_⟩, ?_⟩
                      · have hG : Grew wr wx := (Grew.drew _).trans hR
                        clear hgd
                        simp [Deps, Dep, at_, Is] at hD
                        obtain ⟨hd0, hd1⟩ := hD
                        go_simp
                        exact hK _ _ (Grew.refl _) rfl
                      · have hG : Grew wr wx := (Grew.drew _).trans hR
                        exfalso
                        simp [Deps, Dep, at_, Is] at hD
                        simp_all
                      refine ⟨fun a_ wx hR hD => ⟨fun hgd K hK => ?_, fun hgd => ?_⟩, ?_⟩
                      · have hG : Grew wr wx := (Grew.drew _).trans hR
                        clear hgd
                        simp [Deps, Dep, at_, Is] at hD
                        obtain ⟨hd0, hd1⟩ := hD
                        go_simp
                        exact hK _ _ (Grew.refl _) rfl
                      · have hG : Grew wr wx := (Grew.drew _).trans hR
                        exfalso
                        simp [Deps, Dep, at_, Is] at hD
                        simp_all
                      refine ⟨fun a_ wx hR hD => ⟨fun hgd K hK => ?_, fun hgd => ?_⟩, ?_⟩
                      · have hG : Grew wr wx := (Grew.drew _).trans hR
                        clear hgd
                        simp [Deps, Dep, at_, Is] at hD
                        obtain ⟨hd0, hd1⟩ := hD
                        go_simp
                        have hcn := left_c wx (HCq.out.grew hG)
                        with_reducible refine hcn.mono ?_
                        clear hcn
                        rintro e wy ⟨v, rfl, hv, hg⟩
                        exact hK _ _ hg hv
                      · have hG : Grew wr wx := (Grew.drew _).trans hR
                        exfalso
                        simp [Deps, Dep, at_, Is] at hD
                        simp_all
                      refine ⟨fun a_ wx hR hD => ⟨fun hgd K hK => ?_, fun hgd => ?_⟩, ?_⟩
                      · have hG : Grew wr wx := (Grew.drew _).trans hR
                        clear hgd
                        simp [Deps, Dep, at_, Is] at hD
                        obtain ⟨hd0, hd1, hd2⟩ := hD
                        have e7 := E7.out
                        go_simp
                        exact hK _ _ (Grew.refl _) rfl
                      · have hG : Grew wr wx := (Grew.drew _).trans hR
                        exfalso
                        simp [Deps, Dep, at_, Is] at hD
                        simp_all
                      refine ⟨fun a_ wx hR hD => ⟨fun hgd K hK => ?_, fun hgd => ?_⟩, ?_⟩
                      · have hG : Grew wr wx := (Grew.drew _).trans hR
                        clear hgd
                        simp [Deps, Dep, at_, Is] at hD
                        obtain ⟨hd0, hd1⟩ := hD
                        go_simp
                        exact hK _ _ (Grew.refl _) rfl
                      · have hG : Grew wr wx := (Grew.drew _).trans hR
                        exfalso
                        simp [Deps, Dep, at_, Is] at hD
                        simp_all
                      refine ⟨fun a_ wx hR hD => ⟨fun hgd K hK => ?_, fun hgd => ?_⟩, ?_⟩
                      · have hG : Grew wr wx := (Grew.drew _).trans hR
                        clear hgd
                        simp [Deps, Dep, at_, Is] at hD
                        obtain ⟨hd0, hd1⟩ := hD
                        go_simp
                        exact hK _ _ (Grew.refl _) rfl
                      · have hG : Grew wr wx := (Grew.drew _).trans hR
                        exfalso
                        simp [Deps, Dep, at_, Is] at hD
                        simp_all
                      trivial
                    · show EndHold _ _ _ _ _ _ _
                      refine end_all (xs := [_, _, _, _, _, _, _, _, _, _, _, _]) ⟨rfl, rfl, rfl, rfl, rfl, rfl, rfl, rfl, rfl, rfl, rfl, rfl, trivial⟩ ?_
                      rintro w5 hR1 -
                      refine ⟨?_⟩
                      have hG_w5 : Grew wr w5 := (Grew.drew _).trans hR1
                      clear hR1
                      simp only [Act.put, List.setIfInBounds_toArray, List.set_cons_succ, List.set_cons_zero, dropN, putEach]
                      go_wp2_with fail
                      go_roundw
                      case rel =>
                        refine ⟨pre ++ [x], suf, p2, res.2.1, res.2.2, vb3, _, rfl, by simpa using HP.out, by simp, ?_, by simp; omega, ?_, HRun2.out, pw_own_below HOwn8.out (HGq.out.trans hG_w5), HCq.out.grew hG_w5, Below.trans HBq.out (hG_w5.mono (Nat.le_trans hB2 HBq.out.size))⟩
                        · rw [HTx.out]; simp
                        · intro z hz
                          rcases List.mem_append.1 hz with h | h
                          · exact h500 z h
                          · rw [List.mem_singleton.1 h]; omega
                      case measure => simp [intOf]; omega
                  · have hl2 : g2.length = p2.length + s2.length + 1 := by rw [hp2]; simp; omega
                    have d6 : decide (p2.length < g2.length) = true := decide_eq_true (by omega)
                    obtain ⟨ad, rfl, hcell2⟩ := strs_cell (Kd.C_below HC8.out hgq) p2.length (by omega)
                    rw [hp2, strs_mid] at hcell2
                    have hz8 : (strOfNums q).size = q.length := str_size _
                    have e8 : IntKind.i64.wrap ((F p2 : Int) + (q.length : Int)) = (F (p2 ++ [q]) : Int) := by
                      have h1 := HFl2.out
                      rw [hp2, HFap.out] at h1
                      rw [IntWalk.i64_in _ (by omega), HFs.out]
                      omega
                    clear hp2
                    go_wp2_with fail
                    go_roundw
                    case rel => exact ⟨p2 ++ [q], s2, by simpa using HP2.out, by simp, rfl, hgq⟩
                    case measure => simp [intOf]; omega
            · clear hp hlen
              have hfin := finish_run hrun
              have hbyt : ∀ z ∈ pre.flatten, 0 ≤ z ∧ z < 256 := fun z hz => by
                obtain ⟨q, hq, hzq⟩ := List.mem_flatten.1 hz
                exact HOk.out q (by rw [HP.out]; simp [hq]) z hzq
              have hsz := flat_le pre h500
              have hsz2 : (strOfNums pre.flatten).size ≤ 100000 := by rw [str_size]; omega
              have HCt := Lib.hid (HC.out (strOfNums pre.flatten) hsz2)
              rw [bytesOf_str hbyt, hfin] at HCt
              have HCut := Lib.hid hcut
              have hgl : got.length ≤ 20000 := by
                have := cutRun_len lo hi bits pre.flatten [] [] []
                rw [hrun] at this
                simp only [List.length_nil] at this
                omega
              clear hfin hrun hbyt hsz hsz2
              go_wp2_with fail
              refine (end_c wr HCut.out).mono ?_
              rintro e w3 ⟨_, rfl, ⟨rfl, vb4, hcut4, hfr4⟩, hu3⟩
              have hown3 := hu3.own hown (hcut.own_far hown (by decide) (by decide) (by decide))
              have hbel3 : Below B w1 w3 := Below.trans hbel (hu3.below (Nat.le_trans hB2 hbel.size) hcut.low)
              have Hown3 := Lib.hid hown3
              clear hown3 hown hfr4 hu3 HCut hcut hbel
              rcases b with _ | ⟨y, bl⟩
              · have hd : (!([] : List Int).isEmpty) = false := rfl
                have hse : strOfNums [] = ⟨#[]⟩ := rfl
                rw [hd, hse]
                go_wp2_with fail
                refine (left_c w3 hcut4).mono ?_
                rintro e w4 ⟨_, rfl, rfl, hg4⟩
                have hbel4 : Below B w1 w4 := Below.trans hbel3 (hg4.mono (Nat.le_trans hB2 hbel3.size))
                have hb4 := HB1.out w4 hbel4
                have k0 := hb4.at_ 0
                have k1 := hb4.at_ 1
                have k2 := hb4.at_ 2
                simp only [List.getElem?_cons_succ, List.getElem?_cons_zero] at k0 k1 k2
                have hll : (([] : List Int).length : Int) = 0 := rfl
                rw [hll]
                go_wp2_with fail
                refine (HCt.out w4).mono ?_
                rintro e w5 ⟨_, rfl, ⟨v5, rfl, hown5⟩, hg5⟩
                have hbel5 : Below B w1 w5 := Below.trans hbel4 (hg5.mono (Nat.le_trans hB2 hbel4.size))
                have hcut5 := (hcut4.grew hg4).grew hg5
                simp only [opt, List.append_nil] at hown5
                rw [strs_len] at hown5
                obtain ⟨A5, c5, rfl, -, hc5, hC5⟩ := own_strs hown5
                obtain ⟨A8, c8, rfl, -, hc8, hC8⟩ := own_strs (pw_own_below Hown3.out (hg4.trans hg5))
                have hS := same_c A8 c8 A5 c5 (strs got) w5 (by rw [strs_len]; exact hC8) (by rw [strs_len]; exact hc8) (by rw [strs_len]; exact hC5) (by rw [strs_len]; exact hc5) (by rw [strs_len]; omega)
                rw [strs_len] at hS
                have HS := Lib.hid hS
                clear hS hC5 hC8 hown5 k0 k1 k2 hb4
                go_wp2_with fail
                refine HS.out.mono ?_
                rintro e w6 ⟨_, rfl, rfl, hg6⟩
                go_wp2_with fail
                go_roundw
                case rel => exact ⟨r + 1, vb4, by go_num, by omega, hcut5.grew hg6, Below.trans hbel5 (hg6.mono (Nat.le_trans hB2 hbel5.size))⟩
                case measure => simp [intOf]; omega
              · have hd : (!(y :: bl).isEmpty) = true := rfl
                have hne1 : (strOfNums (y :: bl)).toList.isEmpty = false := by rw [str_empty]; rfl
                have hne2 : ¬ (strOfNums (y :: bl)).toList = [] := by simpa using hne1
                rw [hd]
                go_wp2_with fail
                refine (left_c w3 hcut4).mono ?_
                rintro e w4 ⟨_, rfl, rfl, hg4⟩
                have hbel4 : Below B w1 w4 := Below.trans hbel3 (hg4.mono (Nat.le_trans hB2 hbel3.size))
                have hll : (([] : List Int).length : Int) = 0 := rfl
                rw [hll]
                have hown4 := pw_own_below Hown3.out hg4
                obtain ⟨vn, wn, hrn, hown8, hgr8, hat8⟩ := app_row (P := Try.prog) Value.string ByteArray.empty (fun _ => rfl) (w4.alloc (.cells #[.string (strOfNums (y :: bl))] 9)) B 25 9 25 (.string ⟨#[]⟩) 16 Try.underlying25 info9 rfl (by decide) _ (strs got) [strOfNums (y :: bl)] _ 1 1 (by rw [strs_len]; exact hown4.alloc _) ((Blk.new w4 9 (encs Value.string [strOfNums (y :: bl)])).reads_of (by simp)) (by have h1 := hbel4.size; simp; omega) (by rw [strs_len]; omega)
                have hU8 := Upd.of_alloc_grown hgr8
                have hcut8 := (hcut4.grew hg4).upd hU8 (fun k hk h => (hcut4.grew hg4).own_far hown4 (by decide) (by decide) (by decide) k h hk)
                have hbel8 : Below B w1 wn := Below.trans hbel4 (hU8.below (Nat.le_trans hB2 hbel4.size) (fun k hk => own_base hown4 k hk))
                have hb8 := HB1.out wn hbel8
                have k0 := hb8.at_ 0
                have k1 := hb8.at_ 1
                have k2 := hb8.at_ 2
                simp only [List.getElem?_cons_succ, List.getElem?_cons_zero] at k0 k1 k2
                have Hown8 := Lib.hid hown8
                clear hown8 hown4 hU8 hgr8 hat8 hb8
                go_wp2_with (at_builtin; refine wpList_app (by rfl) (.tmp 112) (.tmp 114) 25 (by rfl) (by rfl) (by rfl) hrn ?_)
                refine (HCt.out wn).mono ?_
                rintro e w5 ⟨_, rfl, ⟨v5, rfl, hown5⟩, hg5⟩
                have hbel5 : Below B w1 w5 := Below.trans hbel8 (hg5.mono (Nat.le_trans hB2 hbel8.size))
                have hcut5 := hcut8.grew hg5
                have e1 : strs got ++ [strOfNums (y :: bl)] = strs (got ++ opt (y :: bl)) := by simp [strs, opt]
                have hown9 := pw_own_below Hown8.out hg5
                rw [e1] at hown9
                obtain ⟨A5, c5, rfl, -, hc5, hC5⟩ := own_strs hown5
                obtain ⟨A8, c8, rfl, -, hc8, hC8⟩ := own_strs hown9
                have HS := Lib.hid (same_c A8 c8 A5 c5 (strs (got ++ opt (y :: bl))) w5 hC8 hc8 hC5 hc5 (by rw [strs_len, List.length_append]; have := opt_len (y :: bl); omega))
                clear hC5 hC8 hown5 hown9 k0 k1 k2 hrn
                go_wp2_with fail
                refine HS.out.mono ?_
                rintro e w6 ⟨_, rfl, rfl, hg6⟩
                go_wp2_with fail
                go_roundw
                case rel => exact ⟨r + 1, vb4, by go_num, by omega, hcut5.grew hg6, Below.trans hbel5 (hg6.mono (Nat.le_trans hB2 hbel5.size))⟩
                case measure => simp [intOf]; omega
      · obtain rfl : r = 2 := by omega
        go_wp2_with fail
        refine (lives_c _).mono ?_
        rintro e w3 ⟨_, rfl, rfl, hg3⟩
        go_wp2
        go_ret
        exact ⟨_, rfl, rfl, (HFin.out _ hbr).trans hg3⟩
  · have HN := Lib.hid (fun w => cnew_no lo hi bits w hm)
    have hmy := fun w => lmay_c lo hi bits w
    rw [decide_eq_false hm] at hmy
    have HMy := Lib.hid hmy
    have HB0 := Lib.hid (Blk.new w 23 [.int .i64 lo, .int .i64 hi, .int .i64 bits])
    clear hm hmy
    go_enter Try.func6, Try.ntmps6
    go_wp2_with fail
    refine (HN.out _).mono ?_
    rintro e w1 ⟨_, rfl, rfl, hg1⟩
    have hb1 := HB0.out.grew hg1
    have k0 := hb1.at_ 0
    have k1 := hb1.at_ 1
    have k2 := hb1.at_ 2
    simp only [List.getElem?_cons_succ, List.getElem?_cons_zero] at k0 k1 k2
    go_wp2_with fail
    refine (HMy.out _).mono ?_
    rintro e w2 ⟨_, rfl, rfl, hg2⟩
    go_wp2_with fail
    refine (lives_c _).mono ?_
    rintro e w3 ⟨_, rfl, rfl, hg3⟩
    go_wp2
    go_ret
    exact ⟨_, rfl, rfl, (Grew.alloc _ _).trans (hg1.trans (hg2.trans hg3))⟩
end Go.Proofs.Ytaeobiilihklhaa.F

-- Open
namespace Go.Proofs.YtaeobiilihklhaaO
set_option linter.unusedSimpArgs false
open Go Go.RowKit Go.ChangeShapes Go.WideShapes Go.ChangeAt Go.Proofs.YtaeobiilihklhaaW.PrintWords
/-- cells of type t that can be read as data are some x of kind d -/
def Opens {α : Type} (P : Program) (t : TypeId) (d : Kd α) (ok : α → Prop) : Prop :=
  ∀ (H : Type) (enc : TypeId × Value → H) (W : World) (sp : Nat → Bool) (held : Bool) (fuel : Nat) (cs : List Value) (y : DataW H × List MemPlace), DataW.trod enc P W 0 sp held fuel t cs = some y → ∃ x, d.K W x cs ∧ ok x
section
variable {P : Program} {α : Type}
theorem opens_int {t : TypeId} {k : IntKind} (hu : P.underlying t = some (.int k)) : Opens P t (Kd.int k) (fun x => (Lit.int k x).wf = true) := by
  intro H enc W sp held fuel cs y h
  cases fuel with
  | zero => simp [DataW.trod] at h
  | succ n =>
    have key : ∃ n', cs = [.int k n'] ∧ (Lit.int k n').wf = true := by
      simp only [DataW.trod, hu] at h
      split at h <;> simp_all
    obtain ⟨x, rfl, hx⟩ := key
    exact ⟨x, rfl, hx⟩
theorem opens_bool {t : TypeId} (hu : P.underlying t = some .bool) : Opens P t Kd.bool (fun _ => True) := by
  intro H enc W sp held fuel cs y h
  cases fuel with
  | zero => simp [DataW.trod] at h
  | succ n =>
    have key : ∃ b, cs = [.bool b] := by
      simp only [DataW.trod, hu] at h
      split at h <;> simp_all
    obtain ⟨x, rfl⟩ := key
    exact ⟨x, rfl, trivial⟩
theorem opens_string {t : TypeId} (hu : P.underlying t = some .string) : Opens P t Kd.string (fun s => s.size ≤ maxLen) := by
  intro H enc W sp held fuel cs y h
  cases fuel with
  | zero => simp [DataW.trod] at h
  | succ n =>
    simp only [DataW.trod, hu] at h
    split at h <;> simp_all
    exact ⟨_, rfl, h.1⟩
theorem mapM_get {β γ : Type} {f : β → Option γ} : ∀ {l : List β} {ys : List γ}, l.mapM f = some ys → ys.length = l.length ∧ ∀ (i : Nat) (x : β), l[i]? = some x → ∃ y, f x = some y
  | [], ys, h => by simp at h; subst h; simp
  | a :: l, ys, h => by
    simp only [List.mapM_cons] at h
    obtain ⟨b, hb, h⟩ := Option.bind_eq_some_iff.1 h
    obtain ⟨bs, hbs, h⟩ := Option.bind_eq_some_iff.1 h
    simp at h
    subst h
    have ih := mapM_get hbs
    refine ⟨by simp [ih.1], fun i x hx => ?_⟩
    cases i with
    | zero => simp at hx; subst hx; exact ⟨b, hb⟩
    | succ i => simp at hx; exact ih.2 i x hx
theorem choose_list {ok : α → Prop} {Q : Nat → α → Prop} : ∀ n : Nat, (∀ i, i < n → ∃ x, Q i x ∧ ok x) → ∃ xs : List α, xs.length = n ∧ (∀ (i : Nat) (x : α), xs[i]? = some x → Q i x) ∧ ∀ x ∈ xs, ok x
  | 0, _ => ⟨[], rfl, by simp, by simp⟩
  | n + 1, h => by
    obtain ⟨xs, h1, h2, h3⟩ := choose_list n (fun i hi => h i (by omega))
    obtain ⟨x, hx, hk⟩ := h n (by omega)
    refine ⟨xs ++ [x], by simp [h1], fun i y hy => ?_, fun y hy => ?_⟩
    · rcases Nat.lt_or_ge i n with hlt | hge
      · rw [List.getElem?_append_left (by omega)] at hy; exact h2 i y hy
      · rw [List.getElem?_append_right (by omega)] at hy
        have : i = n := by
          rcases Nat.lt_or_ge n i with h' | h'
          · rw [List.getElem?_eq_none (by simp; omega)] at hy; cases hy
          · omega
        subst this
        simp [h1] at hy
        subst hy; exact hx
    · rcases List.mem_append.1 hy with hy | hy
      · exact h3 y hy
      · simp at hy; subst hy; exact hk
theorem cells_get {W : World} {a : Addr} {n : Nat} {cs : List Value} (h : W.cells? 0 a n = some cs) : cs.length = n ∧ ∀ (i : Nat) (u : Value), cs[i]? = some u → W.cell? (a.add i) = some u := by
  unfold World.cells? at h
  rw [if_pos (Nat.zero_le _)] at h
  have h1 := mapM_get h
  refine ⟨by simpa using h1.1, fun i u hu => ?_⟩
  have hi : i < n := by
    have := (List.getElem?_eq_some_iff.1 hu).1
    rw [h1.1] at this; simpa using this
  obtain ⟨y, hy⟩ := h1.2 i i (by simp [hi])
  have key : ∀ (l : List Nat) (ys : List Value), l.mapM (fun i => W.cell? (a.add i)) = some ys → ∀ (j : Nat), ys[j]? = (l[j]?).bind fun i => W.cell? (a.add i) := by
    intro l
    induction l with
    | nil => intro ys h j; simp at h; subst h; simp
    | cons b l ih =>
      intro ys h j
      simp only [List.mapM_cons] at h
      obtain ⟨c, hc, h⟩ := Option.bind_eq_some_iff.1 h
      obtain ⟨cs', hcs, h⟩ := Option.bind_eq_some_iff.1 h
      simp at h; subst h
      cases j with
      | zero => simp [hc]
      | succ j => simpa using ih cs' hcs j
  have := key _ _ h i
  rw [hu] at this
  simp [hi] at this
  exact this.symm
theorem opens_slice {t e : TypeId} {d : Kd α} {ok : α → Prop} (hu : P.underlying t = some (.slice e)) (he : Opens P e d ok) (hc : P.cellsOf e = d.sz) : Opens P t (Kd.slice e d) (fun xs => ∀ x ∈ xs, ok x) := by
  intro H enc W sp held fuel cs y h
  cases fuel with
  | zero => simp [DataW.trod] at h
  | succ n =>
    have key : cs = [.slice none 0 0] ∨ ∃ a len cap, cs = [.slice (some a) len cap] ∧ len ≤ cap ∧ cap ≤ maxLen ∧ ∃ elems, (List.range len).mapM (fun i => (W.cells? 0 (a.add (i * P.cellsOf e)) (P.cellsOf e)).bind (DataW.trod enc P W 0 sp held n e)) = some elems := by
      simp only [DataW.trod, hu] at h
      split at h <;> try (simp_all; done)
      rename_i e' a len cap heq
      simp only [Option.some.injEq, TypeDesc.slice.injEq] at heq
      subst heq
      split at h
      · rename_i hb
        obtain ⟨elems, he1, _⟩ := Option.bind_eq_some_iff.1 h
        exact .inr ⟨a, len, cap, rfl, hb.2.1, hb.2.2, elems, he1⟩
      · cases h
    rcases key with rfl | ⟨a, len, cap, rfl, h1, h2, elems, he1⟩
    · exact ⟨[], ⟨none, 0, rfl, by simp, by simp [Kd.C, ReadsRow]⟩, by simp⟩
    · rw [hc] at he1
      have hm := mapM_get he1
      obtain ⟨xs, x1, x2, x3⟩ := choose_list (ok := ok) (Q := fun i x => ∃ c, W.cells? 0 (a.add (i * d.sz)) d.sz = some c ∧ d.K W x c) len (fun i hi => by
        obtain ⟨z, hz⟩ := hm.2 i i (by simp [hi])
        obtain ⟨c, hc1, hc2⟩ := Option.bind_eq_some_iff.1 hz
        obtain ⟨x, hx, hk⟩ := he H enc W sp held n c z hc2
        exact ⟨x, ⟨c, hc1, hx⟩, hk⟩)
      refine ⟨xs, ⟨some a, cap, by rw [x1], by omega, ?_⟩, x3⟩
      refine ⟨rfl, by have : maxLen = 9223372036854775807 := rfl; omega, fun _ => ⟨a, rfl, fun j p hp => ?_⟩⟩
      obtain ⟨c, hc1, hk⟩ := x2 j p hp
      have hg := cells_get hc1
      refine ⟨c, hg.1, hk, fun i u hiu => ?_⟩
      have := hg.2 i u hiu
      rw [← this]
      congr 1
      unfold Addr.add
      by_cases z1 : j * d.sz = 0
      · rw [if_pos z1]
        by_cases z2 : i = 0
        · simp [z1, z2]
        · rw [if_neg (by omega), if_neg z2]; simp [z1]
      · rw [if_neg z1, if_neg (by omega)]
        by_cases z2 : i = 0
        · simp [z2]
        · rw [if_neg z2]; simp [Nat.add_assoc]
theorem opens_array {t e n : Nat} {d : Kd α} {ok : α → Prop} (hs : 0 < d.sz) (hu : P.underlying t = some (.array n e)) (he : Opens P e d ok) (hc : P.cellsOf e = d.sz) (ht : P.cellsOf t = n * d.sz) : Opens P t (Kd.arr n d hs) (fun xs => ∀ x ∈ xs, ok x) := by
  intro H enc W sp held fuel cs y h
  cases fuel with
  | zero => simp [DataW.trod] at h
  | succ m =>
    simp only [DataW.trod, hu] at h
    split at h
    · rename_i hl
      obtain ⟨ys, hy, _⟩ := Option.map_eq_some_iff.1 h
      have hm := mapM_get hy
      obtain ⟨xs, x1, x2, x3⟩ := choose_list (ok := ok) (Q := fun i x => d.K W x ((cs.drop (i * d.sz)).take d.sz)) n (fun i hi => by
        obtain ⟨z, hz⟩ := hm.2 i i (by simp [hi])
        rw [hc] at hz
        exact he H enc W sp held m _ z hz)
      exact ⟨xs, ⟨x1, by rw [x1, hl, ht], x2⟩, x3⟩
    · cases h
/-- an argument of a kind -/
theorem opens_arg {t : TypeId} {d : Kd α} {ok : α → Prop} (ho : Opens P t d ok) {H : Type} {enc : TypeId × Value → H} {W : World} {sp : Nat → Bool} {held : Bool} {v : Value} {y : DataW H} {ps : List MemPlace} (h : DataW.Trod enc P W 0 sp held t v y ps) : ∃ x, d.K W x v.cells.toList ∧ ok x := by
  obtain ⟨fuel, hf⟩ := h
  exact ho H enc W sp held fuel _ _ hf
theorem okWide_array {t n e : Nat} {r : Reach} {b0 : Nat} {v : Value} {W : World} (hu : P.underlying t = some (.array n e)) (h : Value.okWide P W r b0 t v) : ∃ cs, v = .agg cs ∧ cs.size = P.cellsOf t := by
  simp only [Value.okWide, hu] at h
  obtain ⟨cs, h1, h2, _⟩ := h
  exact ⟨cs, h1, h2⟩
theorem arr2 {d : Kd α} {hs : 0 < d.sz} (h1 : d.sz = 1) {W : World} {x : List α} {cs : Array Value} (h : (Kd.arr 2 d hs).K W x cs.toList) : ∃ a b c0 c1, x = [a, b] ∧ cs = #[c0, c1] ∧ d.K W a [c0] ∧ d.K W b [c1] := by
  obtain ⟨hl, hc, hr⟩ := h
  rw [hl, h1] at hc
  obtain ⟨l⟩ := cs
  match x, hl, l, hc, hr with
  | [a, b], _, [c0, c1], _, hr => exact ⟨a, b, c0, c1, rfl, rfl, by have := hr 0 a rfl; rw [h1] at this; exact this, by have := hr 1 b rfl; rw [h1] at this; exact this⟩
theorem arr3 {d : Kd α} {hs : 0 < d.sz} (h1 : d.sz = 1) {W : World} {x : List α} {cs : Array Value} (h : (Kd.arr 3 d hs).K W x cs.toList) : ∃ a b c c0 c1 c2, x = [a, b, c] ∧ cs = #[c0, c1, c2] ∧ d.K W a [c0] ∧ d.K W b [c1] ∧ d.K W c [c2] := by
  obtain ⟨hl, hc, hr⟩ := h
  rw [hl, h1] at hc
  obtain ⟨l⟩ := cs
  match x, hl, l, hc, hr with
  | [a, b, c], _, [c0, c1, c2], _, hr => exact ⟨a, b, c, c0, c1, c2, rfl, rfl, by have := hr 0 a rfl; rw [h1] at this; exact this, by have := hr 1 b rfl; rw [h1] at this; exact this, by have := hr 2 c rfl; rw [h1] at this; exact this⟩
end
end Go.Proofs.YtaeobiilihklhaaO

-- OpenW
namespace Go.Proofs.YtaeobiilihklhaaO
set_option linter.unusedSimpArgs false
open Go Go.RowKit Go.ChangeShapes Go.WideShapes Go.ChangeAt Go.Proofs.YtaeobiilihklhaaW.PrintWords
/-- cells of type t that can be read as data of no more weight than is reached are some x of kind d -/
def OpensW {α : Type} (P : Program) (t : TypeId) (d : Kd α) (ok : α → Prop) : Prop :=
  ∀ (H : Type) (enc : TypeId × Value → H) (W : World) (sp : Nat → Bool) (held : Bool) (fuel : Nat) (cs : List Value) (y : DataW H × List MemPlace), DataW.trod enc P W 0 sp held fuel t cs = some y → (∀ n ∈ y.1.weights P t, n ≤ reachBytes) → ∃ x, d.K W x cs ∧ ok x
section
variable {P : Program} {α : Type}
theorem Opens.w {t : TypeId} {d : Kd α} {ok : α → Prop} (h : Opens P t d ok) : OpensW P t d ok := fun H enc W sp held fuel cs y hy _ => h H enc W sp held fuel cs y hy
theorem opensW_string {t : TypeId} (hu : P.underlying t = some .string) : OpensW P t Kd.string (fun s => s.size ≤ 140737488351232) := by
  intro H enc W sp held fuel cs y h hw
  cases fuel with
  | zero => simp [DataW.trod] at h
  | succ n =>
    have key : ∃ s, cs = [.string s] ∧ y.1 = .lit (.string s.data.toList) := by
      simp only [DataW.trod, hu] at h
      split at h <;> simp_all
      rw [← h.2]
    obtain ⟨s, rfl, hy⟩ := key
    refine ⟨s, rfl, ?_⟩
    have := hw s.size (by rw [hy]; simp [DataW.weights])
    exact this
theorem mapM_mem {β γ : Type} {f : β → Option γ} : ∀ {l : List β} {ys : List γ}, l.mapM f = some ys → ∀ (x : β) (z : γ), x ∈ l → f x = some z → z ∈ ys
  | [], ys, h, x, z, hx, _ => by simp at hx
  | a :: l, ys, h, x, z, hx, hz => by
    simp only [List.mapM_cons] at h
    obtain ⟨b, hb, h⟩ := Option.bind_eq_some_iff.1 h
    obtain ⟨bs, hbs, h⟩ := Option.bind_eq_some_iff.1 h
    simp at h
    subst h
    rcases List.mem_cons.1 hx with rfl | hx
    · rw [hb] at hz; injection hz with hz; subst hz; simp
    · exact List.mem_cons_of_mem _ (mapM_mem hbs x z hx hz)
theorem weightsAll_mem {H : Type} {e : TypeId} {d : DataW H} {n : Nat} : ∀ {ds : List (DataW H)}, d ∈ ds → n ∈ d.weights P e → n ∈ DataW.weightsAll P e ds
  | [], h, _ => by simp at h
  | a :: ds, h, hn => by
    simp only [DataW.weightsAll]
    rcases List.mem_cons.1 h with rfl | h
    · exact List.mem_append_left _ hn
    · exact List.mem_append_right _ (weightsAll_mem h hn)
theorem opensW_slice {t e : TypeId} {d : Kd α} {ok : α → Prop} (hu : P.underlying t = some (.slice e)) (he : OpensW P e d ok) (hc : P.cellsOf e = d.sz) : OpensW P t (Kd.slice e d) (fun xs => ∀ x ∈ xs, ok x) := by
  intro H enc W sp held fuel cs y h hw
  cases fuel with
  | zero => simp [DataW.trod] at h
  | succ n =>
    have key : cs = [.slice none 0 0] ∨ ∃ a len cap, cs = [.slice (some a) len cap] ∧ len ≤ cap ∧ cap ≤ maxLen ∧ ∃ elems rest, (List.range len).mapM (fun i => (W.cells? 0 (a.add (i * P.cellsOf e)) (P.cellsOf e)).bind (DataW.trod enc P W 0 sp held n e)) = some elems ∧ y.1 = .slice (elems.map (·.1)) rest := by
      simp only [DataW.trod, hu] at h
      split at h <;> try (simp_all; done)
      rename_i e' a len cap heq
      simp only [Option.some.injEq, TypeDesc.slice.injEq] at heq
      subst heq
      split at h
      · rename_i hb
        obtain ⟨elems, he1, h⟩ := Option.bind_eq_some_iff.1 h
        obtain ⟨rest, _, h⟩ := Option.map_eq_some_iff.1 h
        refine .inr ⟨a, len, cap, rfl, hb.2.1, hb.2.2, elems, rest.map (·.1), he1, ?_⟩
        rw [← h]
      · cases h
    rcases key with rfl | ⟨a, len, cap, rfl, h1, h2, elems, rest, he1, hy⟩
    · exact ⟨[], ⟨none, 0, rfl, by simp, by simp [Kd.C, ReadsRow]⟩, by simp⟩
    · rw [hc] at he1
      have hm := mapM_get he1
      obtain ⟨xs, x1, x2, x3⟩ := choose_list (ok := ok) (Q := fun i x => ∃ c, W.cells? 0 (a.add (i * d.sz)) d.sz = some c ∧ d.K W x c) len (fun i hi => by
        obtain ⟨z, hz⟩ := hm.2 i i (by simp [hi])
        have hmem := mapM_mem he1 i z (by simp [hi]) hz
        obtain ⟨c, hc1, hc2⟩ := Option.bind_eq_some_iff.1 hz
        obtain ⟨x, hx, hk⟩ := he H enc W sp held n c z hc2 (fun q hq => hw q (by
          rw [hy]
          simp only [DataW.weights, hu]
          exact List.mem_cons_of_mem _ (List.mem_append_left _ (weightsAll_mem (List.mem_map_of_mem hmem) hq))))
        exact ⟨x, ⟨c, hc1, hx⟩, hk⟩)
      refine ⟨xs, ⟨some a, cap, by rw [x1], by omega, ?_⟩, x3⟩
      refine ⟨rfl, by have : maxLen = 9223372036854775807 := rfl; omega, fun _ => ⟨a, rfl, fun j p hp => ?_⟩⟩
      obtain ⟨c, hc1, hk⟩ := x2 j p hp
      have hg := cells_get hc1
      refine ⟨c, hg.1, hk, fun i u hiu => ?_⟩
      have := hg.2 i u hiu
      rw [← this]
      congr 1
      unfold Addr.add
      by_cases z1 : j * d.sz = 0
      · rw [if_pos z1]
        by_cases z2 : i = 0
        · simp [z1, z2]
        · rw [if_neg (by omega), if_neg z2]; simp [z1]
      · rw [if_neg z1, if_neg (by omega)]
        by_cases z2 : i = 0
        · simp [z2]
        · rw [if_neg z2]; simp [Nat.add_assoc]
theorem opensW_array {t e n : Nat} {d : Kd α} {ok : α → Prop} (hs : 0 < d.sz) (hu : P.underlying t = some (.array n e)) (he : OpensW P e d ok) (hc : P.cellsOf e = d.sz) (ht : P.cellsOf t = n * d.sz) : OpensW P t (Kd.arr n d hs) (fun xs => ∀ x ∈ xs, ok x) := by
  intro H enc W sp held fuel cs y h hw
  cases fuel with
  | zero => simp [DataW.trod] at h
  | succ m =>
    simp only [DataW.trod, hu] at h
    split at h
    · rename_i hl
      obtain ⟨ys, hy, hyy⟩ := Option.map_eq_some_iff.1 h
      have hm := mapM_get hy
      obtain ⟨xs, x1, x2, x3⟩ := choose_list (ok := ok) (Q := fun i x => d.K W x ((cs.drop (i * d.sz)).take d.sz)) n (fun i hi => by
        obtain ⟨z, hz⟩ := hm.2 i i (by simp [hi])
        have hmem := mapM_mem hy i z (by simp [hi]) hz
        rw [hc] at hz
        exact he H enc W sp held m _ z hz (fun q hq => hw q (by
          rw [← hyy]
          simp only [DataW.weights, hu]
          exact weightsAll_mem (List.mem_map_of_mem hmem) hq)))
      exact ⟨xs, ⟨x1, by rw [x1, hl, ht], x2⟩, x3⟩
    · cases h
/-- an argument of a kind -/
theorem opensW_arg {t : TypeId} {d : Kd α} {ok : α → Prop} (ho : OpensW P t d ok) {H : Type} {enc : TypeId × Value → H} {W : World} {sp : Nat → Bool} {held : Bool} {v : Value} {y : DataW H} {ps : List MemPlace} {ts : List TypeId} {ds : List (DataW H)} {j : Nat}
    (hsz : (DataW.weightsEach P ts ds).all (· ≤ reachBytes) = true) (ht : ts[j]? = some t) (hd : ds[j]? = some y) (h : DataW.Trod enc P W 0 sp held t v y ps) : ∃ x, d.K W x v.cells.toList ∧ ok x := by
  obtain ⟨fuel, hf⟩ := h
  exact ho H enc W sp held fuel _ _ hf (fun n hn => by
    have := List.all_eq_true.1 hsz _ (DataW.weights_mem_each ht hd n hn)
    simpa using this)
end
end Go.Proofs.YtaeobiilihklhaaO
