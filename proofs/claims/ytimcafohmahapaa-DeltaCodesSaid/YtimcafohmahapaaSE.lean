/- Texts of this seat laid together: DelK, DelL. -/
import Derived.Test.YtimcafohmahapaaSD
import Derived.Deep.CutRange
import Derived.WalkMore

-- DelK
namespace Go.Proofs.Ytimcafohmahapaa.F
open Go Go.RowKit Go.Proofs.YtimcafohmahapaaW.PrintWords Go.Proofs.YtimcafohmahapaaW.PrintLast Go.Proofs.YtimcafohmahapaaW.PrintMore Go.Proofs.YtimcafohmahapaaM Go.Proofs.YtimcafohmahapaaR
open Go.ChangeShapes
attribute [local go_sem] max2_int min2_int max_two min_two
set_option linter.unusedSimpArgs false
set_option linter.unusedVariables false
set_option maxRecDepth 100000
theorem C_takeS {α : Type} {K : Kd α} {w : World} {A : Option Addr} {n m : Nat} {l : List α} (h : Kd.C K w A n l) (hm : m ≤ n) : Kd.C K w A m (l.take m) := by
  obtain ⟨hl, hx, hc⟩ := h
  refine ⟨by rw [List.length_take, hl]; omega, by omega, fun hp => ?_⟩
  obtain ⟨ad, hA, hcell⟩ := hc (by omega)
  refine ⟨ad, hA, fun j p hj => hcell j p ?_⟩
  rw [List.getElem?_take] at hj
  split at hj
  · exact hj
  · cases hj
theorem u32wf {x : Int} (h0 : 0 ≤ x) (h1 : x < 4294967296) : (Lit.int .u32 x).wf = true := by
  simp [Lit.wf, IntKind.min, IntKind.max, IntKind.bits, IntKind.signed]; omega
theorem eqSgn (d : Nat) (w : World) (x0 : Int) (x1 : ByteArray) (y0 : Int) (y1 : ByteArray) :
    (Op.equalIn (d + 2) 64 (.agg #[.int .u32 x0, .string x1]) (.agg #[.int .u32 y0, .string y1])).run Try.prog w = .ok (x0 == y0 && (x1.toList == y1.toList)) w := by
  refine eqA_of Try.underlying64 (by kernel_rfl) ?_
  refine eqf_cons (by rfl) (by go_simp; rfl) (by go_simp; rfl) (by go_simp) ?_
  exact eqf_last (by rfl) (by go_simp; rfl) (by go_simp; rfl) (by go_simp)
theorem eq_isS (s x : Sg) : (s.f0 == x.f0 && (s.f1.toList == x.f1.toList)) = isS s x := by
  unfold isS
  rw [Bool.eq_iff_iff]
  simp only [Bool.and_eq_true, beq_iff_eq, decide_eq_true_eq, tl_iff]
  exact ⟨fun h => ⟨h.1.symm, h.2.symm⟩, fun h => ⟨h.1.symm, h.2.symm⟩⟩
theorem bytesOf_win (t : ByteArray) (i m : Nat) (h : i + m ≤ t.size) : bytesOf (t.extract i (i + m)) = ((bytesOf t).drop i).take m := by
  rw [strN_extractD t i (i + m) h, bytesOf_str (fun x hx => bytesOf_byte t x (List.mem_of_mem_take (List.mem_of_mem_drop hx))), List.drop_take, Nat.add_sub_cancel_left]
theorem bt_byteAt (t : ByteArray) (i : Nat) (h : i < t.size) : bt t (i : Int) = byteAt (bytesOf t) i := by
  rw [bt_at' t i h, byteAt_eq _ _ (by rw [bytesOf_length]; exact h)]
theorem roll_on (t : ByteArray) (i m : Nat) (hm : 1 ≤ m) (h : i + m < t.size) : next (weak (bytesOf (t.extract i (i + m)))) (m : Int) (bt t (i : Int)) (bt t ((i : Int) + (m : Int))) = weak (bytesOf (t.extract (i + 1) (i + 1 + m))) := by
  rw [bytesOf_win t i m (by omega), bytesOf_win t (i + 1) m (by omega), bt_byteAt t i (by omega), show (i : Int) + (m : Int) = ((m + i : Nat) : Int) from by omega, bt_byteAt t (m + i) (by omega)]
  exact window_step (bytesOf t) m i hm (by rw [bytesOf_length]; omega)
theorem bysD_len (l : List Pc) (s : ByteArray) : (bysD l s).length ≤ l.length + 1 := by
  unfold bysD
  split
  · rw [List.length_set]; omega
  · rw [List.length_append]; simp
theorem bysD_size {l : List Pc} {s : ByteArray} {m : Nat} (h : ∀ p ∈ l, p.f2.size ≤ m) (hs : s.size = 1) : ∀ p ∈ bysD l s, p.f2.size ≤ m + 1 := by
  intro p hp
  unfold bysD at hp
  split at hp
  · rename_i hc
    rcases List.mem_or_eq_of_mem_set hp with hp | rfl
    · have := h p hp; omega
    · simp only [ByteArray.size_append, hs]
      have hmem : l.getD (l.length - 1) z43 ∈ l := by
        rw [List.getD_eq_getElem?_getD, List.getElem?_eq_getElem (by omega)]
        exact List.getElem_mem _
      have := h _ hmem
      omega
  · rcases List.mem_append.1 hp with hp | hp
    · have := h p hp; omega
    · obtain rfl := List.mem_singleton.1 hp
      simp only; omega
theorem slice_win (t : ByteArray) (i m : Nat) (h : i + m ≤ t.size) (w : World) : (Instr.slice 9 (.string t) (some (.int .i64 (i : Int))) (some (.int .i64 ((i : Int) + (m : Int)))) none).run Try.prog w = .ok (.string (t.extract i (i + m))) w := by
  rw [run_slice_string w 9 t .i64 .i64 _ _ Try.underlying9 (by omega) (by omega) (by omega), Int.toNat_natCast, show ((i : Int) + (m : Int)).toNat = i + m from by omega]
theorem slice_tail (t : ByteArray) (i : Nat) (h : i ≤ t.size) (w : World) : (Instr.slice 9 (.string t) (some (.int .i64 (i : Int))) none none).run Try.prog w = .ok (.string (t.extract i t.size)) w := by
  rw [run_slice_string_from_if w 9 t .i64 _ Try.underlying9, if_pos ⟨by omega, by omega⟩, Int.toNat_natCast]
theorem index_bt (t : ByteArray) (i : Nat) (h : i < t.size) (w : World) : (Instr.index 9 (.string t) (.int .i64 (i : Int))).run Try.prog w = .ok (.int .u8 (bt t (i : Int))) w := by
  rw [run_index_string w 9 t .i64 _ Try.underlying9, dif_pos ⟨by omega, by omega⟩]
  unfold bt
  rw [dif_pos (by rw [Int.toNat_natCast]; exact h)]
theorem sum_bytes (W : World) (b : ByteArray) (nb : Nat) (hnb : b.size = nb) (hb : nb ≤ 10000000) :
    Calls Try.prog 31 #[.slice (some ⟨W.heap.size, 0, none⟩) nb (grownCap W nb 0 5)] (Lib.bytesWorld W 5 b) (Tells (Lib.bytesWorld W 5 b) (Is (.int .u32 (weak (bytesOf b))))) := by
  have h2 := roll_c (some ⟨W.heap.size, 0, none⟩) (grownCap W nb 0 5) (bytesOf b) (Lib.bytesWorld W 5 b) (C_of (by
    have h := bytes_reads W 5 b (by omega)
    rw [← bytesOf_length] at h; exact h)) (by rw [bytesOf_length, hnb]; exact grownCap_ge _ _ _ _) (by rw [bytesOf_length]; omega) (bytesOf_bytes b)
  rw [bytesOf_length, hnb] at h2
  exact h2
theorem bytesWorld_grew (W : World) (b : ByteArray) : Grew W (Lib.bytesWorld W 5 b) := bytes_below (Below.refl _ _) (Nat.le_refl _) _ _
set_option maxHeartbeats 16000000 in
theorem make_c (w : World) (key t : ByteArray) (sg : List Sg) (A : Option Addr) (c size last : Nat) (hr : Kd.C k64 w A sg.length sg) (hc : sg.length ≤ c) (hs1 : 1 ≤ size) (hs2 : size ≤ 128) (hla : last ≤ size) (hz : last = 0 ↔ sg.length = 0) (ht : t.size ≤ 1024) (hl : sg.length ≤ 1024) (hk : key.size ≤ 10000000) (hwf : ∀ x ∈ sg, (Lit.int .u32 x.f0).wf = true) :
    Calls Try.prog 17 #[.string key, .slice A sg.length c, .int .i64 (size : Int), .int .i64 (last : Int), .string t] w (Tells w (DecT (mkD key sg size last t (t.size + 1) 0 [], 0))) := by
  obtain ⟨R, hR⟩ : ∃ R, R = mkD key sg size last t (t.size + 1) 0 [] := ⟨_, rfl⟩
  rw [← hR]
  have HRE := Lib.hid hR
  have HN1 := Lib.hid (fun wx (h : Grew w wx) => inew_c wx A sg.length c sg (Kd.C_below hr h) rfl hc hwf)
  have HN2 := Lib.hid (fun wx (h : Grew w wx) => inew_c wx A (sg.length - 1) c (sg.take (sg.length - 1)) (C_takeS (Kd.C_below hr h) (by omega)) (by rw [List.length_take]; omega) (by omega) (fun x hx => hwf x (List.mem_of_mem_take hx)))
  have HR := Lib.hid (fun wx (h : Grew w wx) => Kd.C_below hr h)
  have e10 : sg.take 1024 = sg := List.take_of_length_le hl
  have e11 : (sg.take (sg.length - 1)).take 1024 = sg.take (sg.length - 1) := List.take_of_length_le (by rw [List.length_take]; omega)
  rw [e10] at HN1
  rw [e11] at HN2
  obtain ⟨n, hn⟩ : ∃ n, n = sg.length := ⟨_, rfl⟩
  have HN := Lib.hid hn
  obtain ⟨W, hW⟩ : ∃ W, W = wholeS sg size last := ⟨_, rfl⟩
  have HW := Lib.hid hW
  have hwl : W.length ≤ 1024 := by rw [hW]; unfold wholeS; split <;> (try rw [List.length_take]) <;> omega
  have hWf : ∀ x ∈ W, (Lit.int .u32 x.f0).wf = true := by
    intro x hx
    rw [hW] at hx
    unfold wholeS at hx
    split at hx
    · exact hwf x (List.mem_of_mem_take hx)
    · exact hwf x hx
  have HWL := Lib.hid hwl
  rw [← hn] at HN1 HN2 HR hc hl hz ⊢
  obtain ⟨T, hT⟩ : ∃ T, T = t.size := ⟨_, rfl⟩
  have HT := Lib.hid hT
  have hT' := hT.symm
  rw [← hT] at ht HRE
  obtain ⟨z, z1, z2, z3, z4, z5, z6⟩ : ∃ z, ((last : Int) == 0) = z ∧ ((n : Int) == 0) = z ∧ (last == 0) = z ∧ (n == 0) = z ∧ decide (last = 0) = z ∧ decide (n = 0) = z := by
    by_cases h : last = 0
    · have := hz.1 h
      exact ⟨true, by simp [h], by simp [this], by simp [h], by simp [this], by simp [h], by simp [this]⟩
    · have h2 : ¬ n = 0 := fun h2 => h (hz.2 h2)
      exact ⟨false, by simp [h], by simp [h2], by simp [h], by simp [h2], by simp [h], by simp [h2]⟩
  have d1 : decide ((size : Int) < 1) = false := decide_eq_false (by omega)
  have d2 : decide (128 < (size : Int)) = false := decide_eq_false (by omega)
  have d3 : decide ((last : Int) < 0) = false := decide_eq_false (by omega)
  have d4 : decide ((size : Int) < (last : Int)) = false := decide_eq_false (by omega)
  have d5 : decide (1024 < (T : Int)) = false := decide_eq_false (by omega)
  have d6 : decide (1024 < (n : Int)) = false := decide_eq_false (by omega)
  have d1' : decide (size < 1) = false := decide_eq_false (by omega)
  have d2' : decide (128 < size) = false := decide_eq_false (by omega)
  have d4' : decide (size < last) = false := decide_eq_false (by omega)
  have d5' : decide (1024 < T) = false := decide_eq_false (by omega)
  have d6' : decide (1024 < n) = false := decide_eq_false (by omega)
  have HZN := Lib.hid hz
  clear hr hR hn hW hwl hT hz hwf e10 e11
  go_enter Try.func17, Try.ntmps17
  go_wp2_with fail
  go_step3
  go_wp2_with fail
  refine (HN1.out w (Grew.refl _)).mono ?_
  rintro e w1 ⟨_, rfl, ⟨p1, lv1, b1, base1, D1, rfl, hI1⟩, hg1⟩
  clear d1 d2 d3 d4 d5 d6 d1' d2' d4' d5' d6' z1 z2 z3 z4 z5 z6
  have HI1 := Lib.hid hI1
  have HG1 := Lib.hid hg1
  clear hI1 hg1
  obtain ⟨bw, hbw⟩ : ∃ bw : Bool, bw = decide (last < size ∧ 0 < n) := ⟨_, rfl⟩
  have HBW := Lib.hid hbw
  clear hbw
  go_upto_region 6 with fail
  go_cut [59] from 19 (fun v59 wc => v59 = .bool bw ∧ wc = w1)
  case first =>
    by_cases h1 : last < size
    · have d1 : decide ((last : Int) < (size : Int)) = true := decide_eq_true (by omega)
      have d1' : decide (last < size) = true := decide_eq_true h1
      by_cases h2 : 0 < n
      · have d2 : decide (0 < (n : Int)) = true := decide_eq_true (by omega)
        have d2' : decide (0 < n) = true := decide_eq_true h2
        go_wp2_with fail
        go_meet
        case rel => exact ⟨by rw [HBW.out, decide_eq_true ⟨h1, h2⟩], rfl⟩
      · have d2 : decide (0 < (n : Int)) = false := decide_eq_false (by omega)
        have d2' : decide (0 < n) = false := decide_eq_false h2
        go_wp2_with fail
        go_meet
        case rel => exact ⟨by rw [HBW.out, decide_eq_false (fun h => h2 h.2)], rfl⟩
    · have d1 : decide ((last : Int) < (size : Int)) = false := decide_eq_false (by omega)
      have d1' : decide (last < size) = false := decide_eq_false h1
      go_wp2_with fail
      go_meet
      case rel => exact ⟨by rw [HBW.out, decide_eq_false (fun h => h1 h.1)], rfl⟩
  case rest =>
    obtain ⟨rfl, rfl⟩ := hcut
    go_upto_if 59 with fail
    go_cut [12] from 19 (fun v12 wc => ∃ (p lvB : Nat) (lv : Value) (b base : Nat) (D : DataW Unit), v12 = .pointer (some ⟨p, 0, none⟩) ∧ Idx lvB p W W lv b base D wc ∧ Grew w wc)
    case first =>
      cases bw with
      | true =>
        have h1 : last < size ∧ 0 < n := of_decide_eq_true HBW.out.symm
        have hWe : W = sg.take (n - 1) := by rw [HW.out]; unfold wholeS; rw [← HN.out, if_pos h1]
        obtain ⟨m, hm⟩ : ∃ m, m = n - 1 := ⟨_, rfl⟩
        have HN2 := HN2.out wc HG1.out
        rw [← hm] at HN2 hWe
        have wm : IntKind.i64.wrap ((n : Int) - 1) = (m : Int) := by rw [IntWalk.i64_in _ (by omega)]; omega
        have mc : (m : Int) ≤ (c : Int) := by omega
        have mc' : m ≤ c := by omega
        have hnm : (n : Int) - 1 = (m : Int) := by omega
        have HN3 := Lib.hid HN2
        clear HN2 hm h1
        go_wp2_with fail
        refine HN3.out.mono ?_
        rintro e w2 ⟨_, rfl, ⟨p2, lv2, b2, base2, D2, rfl, hI2⟩, hg2⟩
        have HI2 := Lib.hid hI2
        have HG2 := Lib.hid hg2
        clear hI2 hg2
        go_wp2_with fail
        go_meet
        case rel => exact ⟨p2, _, lv2, b2, base2, D2, rfl, by rw [hWe]; exact HI2.out, Grew.trans HG1.out HG2.out⟩
      | false =>
        have h1 : ¬ (last < size ∧ 0 < n) := of_decide_eq_false HBW.out.symm
        have hWe : W = sg := by rw [HW.out]; unfold wholeS; rw [← HN.out, if_neg h1]
        go_wp2_with fail
        go_meet
        case rel => exact ⟨p1, _, lv1, b1, base1, D1, rfl, by rw [hWe]; exact HI1.out, HG1.out⟩
    case rest =>
      obtain ⟨p, lvB, lv, b, base, D, rfl, hI, hg⟩ := hcut
      have HI := Lib.hid (fun wx (h : Grew wc wx) => hI.grew h)
      have HGC := Lib.hid (fun wx (h : Grew wc wx) => Grew.trans hg h)
      obtain ⟨B0, hB0⟩ : ∃ B0, B0 = wc.heap.size := ⟨_, rfl⟩
      have HBZ := Lib.hid (fun wx (h : Grew wc wx) => show B0 ≤ wx.heap.size from by rw [hB0]; exact h.size)
      have HUPG := Lib.hid (fun (wx wy : World) (S : Nat → Prop) (h : Grew wc wx) (hu : Upd S wx wy) (hS : ∀ k, S k → B0 ≤ k) => show Grew wc wy from ((Upd.of_grew (S := S) h).trans hu).grew (fun j hj e => by have := hS j e; omega))
      clear hI hg hB0
      go_wp2_with fail
      go_step3
      go_wp2_with fail
      go_loopw [13, 14, 15, 16] (fun v13 v14 v15 iv wr => ∃ (i f : Nat) (acc : List Pc) (sum : Int) (kn : Bool), iv = .int .i64 (i : Int) ∧ i ≤ T ∧ v14 = .int .u32 sum ∧ v15 = .bool kn ∧ T < i + f ∧ mkD key sg size last t f i acc = R ∧ RowO wr B0 43 3 v13 acc.length (pcs acc) ∧ acc.length ≤ i ∧ (∀ p ∈ acc, p.f2.size ≤ i) ∧ 0 ≤ sum ∧ sum < 4294967296 ∧ (kn = true → size ≤ T - i ∧ sum = weak (bytesOf (t.extract i (i + size)))) ∧ Grew wc wr) (fun _ _ _ iv _ => T - (intOf iv).toNat)
      case atStart => exact ⟨0, T + 1, [], 0, false, rfl, Nat.zero_le _, rfl, rfl, by omega, HRE.out.symm, rowO_nil _ _ _ _, Nat.zero_le _, fun p hp => by simp at hp, by omega, by omega, fun h => absurd h (by decide), Grew.refl _⟩
      case round =>
        obtain ⟨i, f, acc, sum, kn, rfl, hi, rfl, rfl, hf, hmk, hro, hal, hps, s0, s1, hkn, hgr⟩ := hrel
        obtain ⟨Av, cv, rfl, hcv⟩ := hro.slice
        have HMK := Lib.hid hmk
        have HRO := Lib.hid (fun wx (h : Grew wr wx) => hro.grew h)
        have HPS := Lib.hid hps
        have HKN := Lib.hid hkn
        have HGR := Lib.hid hgr
        obtain ⟨na, hna⟩ : ∃ na, na = acc.length := ⟨_, rfl⟩
        have HNA := Lib.hid hna
        rw [← hna] at HRO hal hcv ⊢
        clear hmk hro hps hkn hgr hna
        by_cases hlt : i < T
        · obtain ⟨f, rfl⟩ : ∃ q, f = q + 1 := ⟨f - 1, by omega⟩
          have d1 : decide ((i : Int) < (T : Int)) = true := decide_eq_true (by omega)
          have d2 : decide (i < T) = true := decide_eq_true hlt
          obtain ⟨rem, hrem⟩ : ∃ rem, rem = T - i := ⟨_, rfl⟩
          have hrem1 : (T : Int) - (i : Int) = (rem : Int) := by omega
          have wrem : IntKind.i64.wrap (rem : Int) = (rem : Int) := IntWalk.i64_in _ (by omega)
          have hrp : 0 < rem := by omega
          have HREM := Lib.hid hrem
          obtain ⟨bb, hbb⟩ : ∃ bb : Bool, bb = decide (size ≤ rem) := ⟨_, rfl⟩
          have b1' : decide (size ≤ rem) = bb := hbb.symm
          have b2' : decide ((size : Int) ≤ (rem : Int)) = bb := by rw [hbb]; exact decide_eq_decide.2 (by omega)
          have HBB := Lib.hid hbb
          -- what the model does when nothing is copied
          have hstep : ∀ x, mkD key sg size last t (f + 1) i acc = x → (size ≤ rem → (wholeS sg size last).findIdx? (isS (oneS key (t.extract i (i + size)))) = none) → (¬ size ≤ rem → ¬ (rem = last ∧ isS (oneS key (t.extract i t.size)) (sg.getD (sg.length - 1) z64) = true)) → mkD key sg size last t f (i + 1) (bysD acc (strOfNums [bt t (i : Int)])) = x := by
            intro x hx h1 h2
            rw [mkD, hT', if_pos hlt, ← hrem] at hx
            by_cases hs : size ≤ rem
            · rw [if_pos hs, h1 hs] at hx
              exact hx
            · rw [if_neg hs] at hx
              rw [hT'] at h2
              rw [if_neg (h2 hs)] at hx
              exact hx
          have HSTEP := Lib.hid (hstep R HMK.out)
          clear hrem hbb hstep
          go_upto_if 75 with fail
          go_cut [13, 14, 15, 16] from 70 to 162 (fun v13 v14 v15 v16 wc => ∃ (sum2 : Int) (kn2 : Bool), v13 = .slice Av na cv ∧ v16 = .int .i64 (i : Int) ∧ v14 = .int .u32 sum2 ∧ v15 = .bool kn2 ∧ 0 ≤ sum2 ∧ sum2 < 4294967296 ∧ (kn2 = true → size ≤ rem ∧ sum2 = weak (bytesOf (t.extract i (i + size)))) ∧ mkD key sg size last t f (i + 1) (bysD acc (strOfNums [bt t (i : Int)])) = R ∧ Grew wr wc)
          case first =>
            cases bb with
            | false =>
              have hnb : ¬ size ≤ rem := of_decide_eq_false HBB.out.symm
              have HME := Lib.hid (fun (h2 : ¬ (rem = last ∧ isS (oneS key (t.extract i t.size)) (sg.getD (sg.length - 1) z64) = true)) => HSTEP.out (fun h => absurd h hnb) (fun _ => h2))
              by_cases hrl : rem = last
              · have c1 : ((rem : Int) == (last : Int)) = true := by simp [hrl]
                have c2 : (rem == last) = true := by simp [hrl]
                have c3 : decide (rem = last) = true := decide_eq_true hrl
                have c4 : decide ((rem : Int) = (last : Int)) = true := decide_eq_true (by omega)
                have hnp : 0 < n := Nat.pos_of_ne_zero (fun h => by have := HZN.out.2 h; omega)
                obtain ⟨q, hq⟩ : ∃ q, q = n - 1 := ⟨_, rfl⟩
                have hq1 : (n : Int) - 1 = (q : Int) := by omega
                have wq : IntKind.i64.wrap (q : Int) = (q : Int) := IntWalk.i64_in _ (by omega)
                have q1 : (q : Int) < (n : Int) := by omega
                have q2 : q < n := by omega
                obtain ⟨TL, hTL⟩ : ∃ TL, TL = t.extract i t.size := ⟨_, rfl⟩
                have hslT := fun wx => slice_tail t i (by omega) wx
                rw [← hTL] at hslT
                have htls : TL.size ≤ 10000000 := by rw [hTL, ByteArray.size_extract]; omega
                have HON := Lib.hid (fun wx => one_c wx key TL hk htls)
                obtain ⟨sv0, hsv0⟩ : ∃ x, x = weak (bytesOf TL) := ⟨_, rfl⟩
                obtain ⟨sv1, hsv1⟩ : ∃ x, x = strongS key TL := ⟨_, rfl⟩
                rw [← hsv0, ← hsv1] at HON
                have hos : oneS key TL = ⟨sv0, sv1⟩ := by unfold oneS; rw [hsv0, hsv1]
                obtain ⟨ad, hA, k0, k1⟩ := at_T64 (HR.out wr (HGC.out wr HGR.out)) (q : Int) (by omega) q1
                have hrd : rd_T64 sg (q : Int) = sg.getD (sg.length - 1) z64 := by unfold rd_T64; rw [Int.toNat_natCast, ← HN.out, hq]
                obtain ⟨⟨x0, x1⟩, hx⟩ : ∃ x : Sg, x = sg.getD (sg.length - 1) z64 := ⟨_, rfl⟩
                rw [hrd, ← hx, Int.toNat_natCast] at k0 k1
                simp only at k0 k1
                subst hA
                obtain ⟨bq, hbq⟩ : ∃ bq, bq = isS (oneS key TL) ⟨x0, x1⟩ := ⟨_, rfl⟩
                have HEQ := Lib.hid (fun (w' : World) => show (Op.equalIn 10000 64 (.agg #[.int .u32 sv0, .string sv1]) (.agg #[.int .u32 x0, .string x1])).run Try.prog w' = .ok bq w' from by
                  have h9 := eqSgn 9998 w' sv0 sv1 x0 x1
                  rw [h9, hbq, hos, ← eq_isS])
                have HK := Lib.hid (fun wx (h : Grew wr wx) => And.intro (pw_cell_below h k0) (pw_cell_below h k1))
                have HSLT := Lib.hid hslT
                have HBQ := Lib.hid (show bq = isS (oneS key (t.extract i t.size)) (sg.getD (sg.length - 1) z64) from by rw [← hTL, ← hx]; exact hbq)
                have hmq : bq = true → R = acc ++ [⟨true, (q : Int), ⟨#[]⟩⟩] := by
                  intro hb
                  have hx := HMK.out
                  rw [mkD, hT', if_pos hlt, ← HREM.out, if_neg hnb, if_pos ⟨hrl, by rw [← hT', ← HBQ.out]; exact hb⟩, ← HN.out, ← hq] at hx
                  exact hx.symm
                have HMQ := Lib.hid hmq
                have HRL := Lib.hid hrl
                have htT : (t.extract i T) = TL := by rw [hTL, hT']
                clear hnp hq hTL hslT htls hsv0 hsv1 hos hrd hx hbq k0 k1 hmq hrl htT
                go_wp2_with fail
                clear c1 c2 c3 c4
                apply region_grew [Is _, Is _, Is _, Is _, Is _, Is _, Is _, Is _, Is _, Is _, Is _] [([(0, none)], none), ([(4, none)], none), ([(16, none)], none), ([(118, some 1), (119, some 2)], none), ([(117, some 0), (120, some 3)], none), ([(1, none)], none), ([(1, none)], none), ([(123, some 6)], none), ([(124, some 7)], none), ([(122, some 5), (125, some 8)], none), ([(126, some 9)], none)] [(117, 0), (118, 1), (119, 2), (120, 3), (121, 4), (122, 5), (123, 6), (124, 7), (125, 8), (126, 9), (127, 10)] rfl (by kernel_rfl) (by kernel_rfl) (show Stable Grew _ from ⟨Is.stable _, Is.stable _, Is.stable _, Is.stable _, Is.stable _, Is.stable _, Is.stable _, Is.stable _, Is.stable _, Is.stable _, Is.stable _, trivial⟩)
                · show OpsHold _ _ _ _ _ _ _ _ _
                  refine ⟨fun a_ wx hR hD K hK => ?_, ?_⟩
                  · have hG : Grew wr wx := (Grew.drew _).trans hR
                    simp [Deps, Dep, at_, Is] at hD
                    go_simp
                    exact hK _ _ (Grew.refl _) rfl
                  refine ⟨fun a_ wx hR hD K hK => ?_, ?_⟩
                  · have hG : Grew wr wx := (Grew.drew _).trans hR
                    simp [Deps, Dep, at_, Is] at hD
                    go_simp
                    exact hK _ _ (Grew.refl _) rfl
                  refine ⟨fun a_ wx hR hD K hK => ?_, ?_⟩
                  · have hG : Grew wr wx := (Grew.drew _).trans hR
                    simp [Deps, Dep, at_, Is] at hD
                    go_simp
                    exact hK _ _ (Grew.refl _) rfl
                  refine ⟨fun a_ wx hR hD K hK => ?_, ?_⟩
                  · have hG : Grew wr wx := (Grew.drew _).trans hR
                    simp [Deps, Dep, at_, Is] at hD
                    obtain ⟨hd0, hd1⟩ := hD
                    have e_ := HSLT.out wx
                    go_simp
                    exact hK _ _ (Grew.refl _) rfl
                  refine ⟨fun a_ wx hR hD K hK => ?_, ?_⟩
                  · have hG : Grew wr wx := (Grew.drew _).trans hR
                    simp [Deps, Dep, at_, Is] at hD
                    obtain ⟨hd0, hd1⟩ := hD
                    go_simp
                    have hcn := HON.out wx
                    with_reducible refine hcn.mono ?_
                    clear hcn
                    rintro e wy ⟨v, rfl, hv, hg⟩
                    exact hK _ _ hg hv
                  refine ⟨fun a_ wx hR hD K hK => ?_, ?_⟩
                  · have hG : Grew wr wx := (Grew.drew _).trans hR
                    simp [Deps, Dep, at_, Is] at hD
                    go_simp
                    exact hK _ _ (Grew.refl _) rfl
                  refine ⟨fun a_ wx hR hD K hK => ?_, ?_⟩
                  · have hG : Grew wr wx := (Grew.drew _).trans hR
                    simp [Deps, Dep, at_, Is] at hD
                    go_simp
                    exact hK _ _ (Grew.refl _) rfl
                  refine ⟨fun a_ wx hR hD K hK => ?_, ?_⟩
                  · have hG : Grew wr wx := (Grew.drew _).trans hR
                    simp [Deps, Dep, at_, Is] at hD
                    go_simp
                    exact hK _ _ (Grew.refl _) rfl
                  refine ⟨fun a_ wx hR hD K hK => ?_, ?_⟩
                  · have hG : Grew wr wx := (Grew.drew _).trans hR
                    simp [Deps, Dep, at_, Is] at hD
                    go_simp
                    exact hK _ _ (Grew.refl _) rfl
                  refine ⟨fun a_ wx hR hD K hK => ?_, ?_⟩
                  · have hG : Grew wr wx := (Grew.drew _).trans hR
                    simp [Deps, Dep, at_, Is] at hD
                    obtain ⟨hd0, hd1⟩ := hD
                    go_simp
                    exact hK _ _ (Grew.refl _) rfl
                  refine ⟨fun a_ wx hR hD K hK => ?_, ?_⟩
                  · have hG : Grew wr wx := (Grew.drew _).trans hR
                    simp [Deps, Dep, at_, Is] at hD
                    obtain ⟨e0, e1⟩ := HK.out wx hG
                    go_simp
                    exact hK _ _ (Grew.refl _) rfl
                  trivial
                · show EndHold _ _ _ _ _ _ _
                  refine end_all (xs := [_, _, _, _, _, _, _, _, _, _, _]) ⟨rfl, rfl, rfl, rfl, rfl, rfl, rfl, rfl, rfl, rfl, rfl, trivial⟩ ?_
                  rintro w2 hR1 -
                  refine ⟨?_⟩
                  have hG_w2 : Grew wr w2 := (Grew.drew _).trans hR1
                  clear hR1
                  simp only [Act.put, List.setIfInBounds_toArray, List.set_cons_succ, List.set_cons_zero, dropN, putEach]
                  have e_ := HEQ.out
                  cases bq with
                  | false =>
                    have HM2 := Lib.hid (HME.out (fun h => by have := h.2; rw [← HBQ.out] at this; cases this))
                    go_wp2_with fail
                    go_meet
                    case rel => exact ⟨sum, kn, rfl, rfl, rfl, rfl, s0, s1, fun h => absurd (HKN.out h).1 (by have := HREM.out; omega), HM2.out, hG_w2⟩
                  | true =>
                    have hRq := HMQ.out rfl
                    have HRQ := Lib.hid hRq
                    have HG02 := Lib.hid (Grew.trans HGR.out hG_w2)
                    have hbz := HBZ.out w2 HG02.out
                    obtain ⟨W6, hW6⟩ : ∃ W6, W6 = w2.alloc (.cells (enc3 ⟨true, (q : Int), ⟨#[]⟩⟩).toArray 43) := ⟨_, rfl⟩
                    have hg6 : Grew w2 W6 := by rw [hW6]; exact Grew.alloc _ _
                    have hbn : Blk W6 w2.heap.size 43 (enc3 ⟨true, (q : Int), ⟨#[]⟩⟩) := by rw [hW6]; exact Blk.new _ _ _
                    have hro6 := HRO.out W6 (Grew.trans hG_w2 hg6)
                    have hsz6 := hg6.size
                    obtain ⟨y8, w8, hrun, hro8, hgr8, hnb8⟩ := app_rowO (P := Try.prog) W6 B0 22 43 22 (.agg #[.bool false, .int .i64 0, .string ⟨#[]⟩]) 3 32 Try.underlying22 infoPc rfl (by decide) (by decide) (.slice Av na cv) na (pcs acc) w2.heap.size (enc3 ⟨true, (q : Int), ⟨#[]⟩⟩) rfl (enc3_one _) hro6 hbn (by omega) (by omega)
                    rw [← pcs_snoc, ← hRq] at hro8
                    subst hW6
                    have HRUN := Lib.hid hrun
                    have HG8 := Lib.hid (HUPG.out _ w8 _ (Grew.trans HG02.out hg6) (Upd.of_grown hgr8) (fun j hj => hro6.base_ j hj))
                    have hRl : R.length = na + 1 := by rw [hRq, List.length_append, ← HNA.out]; rfl
                    obtain ⟨A8, c8, hv8, hc8, hC8⟩ := rowP_C hro8 hRl
                    subst hv8
                    have HC8 := Lib.hid hC8
                    have HRL2 := Lib.hid hRl
                    clear hRq hbz hg6 hbn hro6 hsz6 hrun hro8 hgr8 hnb8 hC8 hRl hG_w2
                    go_wp2_with (at_builtin; refine wpList_app (by rfl) (.tmp 129) (.tmp 134) 22 (by rfl) (by rfl) (by rfl) HRUN.out ?_)
                    go_ret2
                    exact ⟨_, rfl, ⟨A8, c8, by simp only [HRL2.out]; first | done | rfl, by simp only [HRL2.out]; exact hc8, by simp only [HRL2.out]; exact HC8.out⟩, HGC.out _ HG8.out⟩
              · have c1 : ((rem : Int) == (last : Int)) = false := by simp; omega
                have c2 : (rem == last) = false := by simp; omega
                have c3 : decide (rem = last) = false := decide_eq_false hrl
                have c4 : decide ((rem : Int) = (last : Int)) = false := decide_eq_false (by omega)
                have HM2 := Lib.hid (HME.out (fun h => hrl h.1))
                clear hrl
                go_wp2_with fail
                go_meet
                case rel => exact ⟨sum, kn, rfl, rfl, rfl, rfl, s0, s1, fun h => absurd (HKN.out h).1 (by have := HREM.out; omega), HM2.out, Grew.refl _⟩
            | true =>
              have hnb : size ≤ rem := of_decide_eq_true HBB.out.symm
              go_upto_if 77 with fail
              go_cut [14, 15] from 76 to 162 (fun v14 v15 wc => v14 = .int .u32 (weak (bytesOf (t.extract i (i + size)))) ∧ v15 = .bool true ∧ Grew wr wc)
              case first =>
                cases kn with
                | true =>
                  go_wp2_with fail
                  go_meet
                  case rel => exact ⟨by rw [← (HKN.out (by trivial)).2], rfl, Grew.refl _⟩
                | false =>
                  obtain ⟨WN, hWN⟩ : ∃ WN, WN = t.extract i (i + size) := ⟨_, rfl⟩
                  have hw := HREM.out
                  have hsl := fun wx => slice_win t i size (by omega) wx
                  have hws : WN.size = size := by rw [hWN, ByteArray.size_extract]; omega
                  rw [← hWN] at hsl
                  have HWN := Lib.hid hWN
                  have wsz : IntKind.i64.wrap ((i : Int) + (size : Int)) = (i : Int) + (size : Int) := IntWalk.i64_in _ (by omega)
                  have hby := fun W => print_bytes (P := Try.prog) 9 23 5 Try.underlying9 Try.underlying23 Try.underlying5 WN W
                  rw [hws] at hby
                  have HSUM := Lib.hid (fun W => sum_bytes W WN size hws (by omega))
                  have HSL := Lib.hid hsl
                  clear hWN hw hsl
                  have hsl := HSL.out wr
                  go_wp2_with fail
                  clear hsl
                  refine (HSUM.out wr).mono ?_
                  rintro e w2 ⟨_, rfl, rfl, hg2⟩
                  have HG2 := Lib.hid (Grew.trans (bytesWorld_grew wr WN) hg2)
                  clear hg2 hby
                  go_wp2_with fail
                  go_meet
                  case rel => exact ⟨by rw [← HWN.out], rfl, HG2.out⟩
              case rest =>
                obtain ⟨rfl, rfl, hg2⟩ := hcut
                have HG2 := Lib.hid hg2
                have hg02 := Grew.trans HGR.out hg2
                have HG02 := Lib.hid hg02
                obtain ⟨WN, hWN⟩ : ∃ WN, WN = t.extract i (i + size) := ⟨_, rfl⟩
                have hw := HREM.out
                have hsl := fun wx => slice_win t i size (by omega) wx
                have HSTP := Lib.hid (fun (h : (wholeS sg size last).findIdx? (isS (oneS key (t.extract i (i + size)))) = none) => HSTEP.out (fun _ => h) (fun h2 => absurd hnb h2))
                rw [← HW.out] at HSTP
                have hws : WN.size = size := by rw [hWN, ByteArray.size_extract]; omega
                have hmf : ∀ k : Nat, W.findIdx? (isS (oneS key (t.extract i (i + size)))) = some k → mkD key sg size last t f (i + size) (acc ++ [⟨true, (k : Int), ⟨#[]⟩⟩]) = R := by
                  intro k hk
                  have hx := HMK.out
                  rw [mkD, hT', if_pos hlt, ← HREM.out, if_pos hnb, ← HW.out, hk] at hx
                  exact hx
                have HMF := Lib.hid hmf
                rw [← hWN] at hsl HSTP HMF ⊢
                obtain ⟨sm, hsm⟩ : ∃ sm, sm = weak (bytesOf WN) := ⟨_, rfl⟩
                have hsr := weak_range (bytesOf WN)
                rw [← hsm] at hsr
                have HKR := Lib.hid (show size ≤ rem ∧ sm = weak (bytesOf (t.extract i (i + size))) from ⟨hnb, by rw [← hWN]; exact hsm⟩)
                have hone : (oneS key WN).f0 = sm := hsm.symm
                rw [← hsm]
                have HWK := Lib.hid (iweak_c wc lvB p W lv b base D (HI.out wc hg02) sm (u32wf hsr.1 hsr.2) (by have := HWL.out; omega))
                have HWN := Lib.hid hWN
                have HSL := Lib.hid hsl
                have wsz : IntKind.i64.wrap ((i : Int) + (size : Int)) = (i : Int) + (size : Int) := IntWalk.i64_in _ (by omega)
                obtain ⟨bk, hbk⟩ : ∃ bk, bk = decide (0 < (posns W sm).length) := ⟨_, rfl⟩
                rw [← hbk] at HWK
                have HBK := Lib.hid hbk
                have HONE := Lib.hid hone
                have HSR := Lib.hid hsr
                clear hg2 hg02 hWN hw hsl hmf hsm hsr hone hbk
                go_wp2_with fail
                refine HWK.out.mono ?_
                rintro e w3 ⟨_, rfl, rfl, hg3⟩
                have HG3 := Lib.hid (Grew.trans HG2.out hg3)
                have HG03 := Lib.hid (Grew.trans HG02.out hg3)
                clear hg3
                cases bk with
                | false =>
                  have hno := find_weak (L := W) (s := oneS key WN) (by rw [HONE.out]; exact of_decide_eq_false HBK.out.symm)
                  have HM3 := Lib.hid (HSTP.out hno)
                  clear hno
                  go_wp2_with fail
                  go_meet
                  case rel => exact ⟨sm, true, rfl, rfl, rfl, rfl, HSR.out.1, HSR.out.2, fun _ => HKR.out, HM3.out, HG3.out⟩
                | true =>
                  have HON := Lib.hid (fun wx => one_c wx key WN hk (by omega))
                  have hsl := HSL.out w3
                  obtain ⟨sv0, hsv0⟩ : ∃ x, x = weak (bytesOf WN) := ⟨_, rfl⟩
                  obtain ⟨sv1, hsv1⟩ : ∃ x, x = strongS key WN := ⟨_, rfl⟩
                  rw [← hsv0, ← hsv1] at HON
                  have hos : oneS key WN = ⟨sv0, sv1⟩ := by unfold oneS; rw [hsv0, hsv1]
                  obtain ⟨fi, hfi⟩ : ∃ fi, fi = W.findIdx? (isS (oneS key WN)) := ⟨_, rfl⟩
                  have HFI := Lib.hid (fun wx (h : Grew w3 wx) => show Calls Try.prog 33 #[.pointer (some ⟨p, 0, none⟩), .agg #[.int .u32 sv0, .string sv1]] wx (Tells wx (Is (.tuple #[.int .i64 (pairO fi).1, .bool (pairO fi).2]))) from by
                    have h9 := ifind_c wx lvB p W lv b base D (HI.out wx (Grew.trans HG03.out h)) ⟨sv0, sv1⟩ (by rw [hsv0]; exact u32wf (weak_range _).1 (weak_range _).2) (by have := HWL.out; omega)
                    rw [findP_eq] at h9
                    rw [hfi, hos]
                    exact h9)
                  have HFE := Lib.hid hfi
                  clear hsv0 hsv1 hos hfi
                  go_wp2_with fail
                  clear hsl
                  refine (HON.out w3).mono ?_
                  rintro e w4 ⟨_, rfl, rfl, hg4⟩
                  go_wp2_with fail
                  refine (HFI.out w4 hg4).mono ?_
                  rintro e w5 ⟨_, rfl, rfl, hg5⟩
                  have HG5 := Lib.hid (Grew.trans HG3.out (Grew.trans hg4 hg5))
                  have HG05 := Lib.hid (Grew.trans HG03.out (Grew.trans hg4 hg5))
                  clear hg4 hg5
                  cases fi with
                  | none =>
                    have HM3 := Lib.hid (HSTP.out HFE.out.symm)
                    simp only [pairO]
                    go_wp2_with fail
                    go_meet
                    case rel => exact ⟨sm, true, rfl, rfl, rfl, rfl, HSR.out.1, HSR.out.2, fun _ => HKR.out, HM3.out, HG5.out⟩
                  | some k =>
                    have HM3 := Lib.hid (HMF.out k HFE.out.symm)
                    simp only [pairO]
                    have hbz := HBZ.out w5 HG05.out
                    obtain ⟨W6, hW6⟩ : ∃ W6, W6 = w5.alloc (.cells (enc3 ⟨true, (k : Int), ⟨#[]⟩⟩).toArray 43) := ⟨_, rfl⟩
                    have hg6 : Grew w5 W6 := by rw [hW6]; exact Grew.alloc _ _
                    have hbn : Blk W6 w5.heap.size 43 (enc3 ⟨true, (k : Int), ⟨#[]⟩⟩) := by rw [hW6]; exact Blk.new _ _ _
                    have hro6 := HRO.out W6 (Grew.trans HG5.out hg6)
                    have hsz6 := hg6.size
                    obtain ⟨y8, w8, hrun, hro8, hgr8, hnb8⟩ := app_rowO (P := Try.prog) W6 B0 22 43 22 (.agg #[.bool false, .int .i64 0, .string ⟨#[]⟩]) 3 32 Try.underlying22 infoPc rfl (by decide) (by decide) (.slice Av na cv) na (pcs acc) w5.heap.size (enc3 ⟨true, (k : Int), ⟨#[]⟩⟩) rfl (enc3_one _) hro6 hbn (by omega) (by omega)
                    rw [← pcs_snoc] at hro8
                    have HRUN := Lib.hid (show _ from hrun)
                    subst hW6
                    have HG8 := Lib.hid (HUPG.out _ w8 _ (Grew.trans HG05.out hg6) (Upd.of_grown hgr8) (fun j hj => hro6.base_ j hj))
                    have HRO8 := Lib.hid (show RowO w8 B0 43 3 y8 (acc ++ [(⟨true, (k : Int), ⟨#[]⟩⟩ : Pc)]).length (pcs (acc ++ [⟨true, (k : Int), ⟨#[]⟩⟩])) from by rw [List.length_append, ← HNA.out]; exact hro8)
                    have HPS8 := Lib.hid (show ∀ p ∈ acc ++ [(⟨true, (k : Int), ⟨#[]⟩⟩ : Pc)], p.f2.size ≤ i + size from fun p hp => by
                      rcases List.mem_append.1 hp with hp | hp
                      · have := HPS.out p hp; omega
                      · obtain rfl := List.mem_singleton.1 hp; exact Nat.zero_le _)
                    have HLN8 := Lib.hid (show (acc ++ [(⟨true, (k : Int), ⟨#[]⟩⟩ : Pc)]).length ≤ i + size from by rw [List.length_append, ← HNA.out]; simp; omega)
                    obtain ⟨A8, c8, rfl, hc8⟩ := hro8.slice
                    have hiT : i + size ≤ T := by have := HREM.out; omega
                    clear hbz hg6 hbn hro6 hsz6 hrun hro8 hgr8 hnb8
                    go_wp2_with (at_builtin; refine wpList_app (by rfl) (.tmp 103) (.tmp 106) 22 (by rfl) (by rfl) (by rfl) HRUN.out ?_)
                    go_roundw
                    case rel => exact ⟨i + size, f, _, sm, false, by go_num, hiT, rfl, rfl, by omega, HM3.out, HRO8.out, HLN8.out, HPS8.out, HSR.out.1, HSR.out.2, fun h => absurd h (by decide), HG8.out⟩
                    case measure => simp [intOf]; omega
          case rest =>
            obtain ⟨sum2, kn2, rfl, rfl, rfl, rfl, t0, t1, hkn2, hmk2, hg2⟩ := hcut
            have HG2 := Lib.hid hg2
            have HG02 := Lib.hid (Grew.trans HGR.out hg2)
            have hix := fun wx => index_bt t i (by omega) wx
            obtain ⟨bi, hbi⟩ : ∃ bi, bi = bt t (i : Int) := ⟨_, rfl⟩
            rw [← hbi] at hix hmk2
            have hbr := bt_range t (i : Int)
            rw [← hbi] at hbr
            have hby := byself_c wc B0 (.slice Av na cv) acc bi (by rw [← HNA.out]; exact HRO.out wc hg2) (HBZ.out wc HG02.out) (by rw [← HNA.out]; omega) (fun p hp => by have := HPS.out p hp; omega)
            have HBY := Lib.hid hby
            have HMK2 := Lib.hid hmk2
            have HKN2 := Lib.hid hkn2
            have HBI := Lib.hid hbi
            have HIX := Lib.hid hix
            clear hg2 hix hbi hby hmk2 hkn2
            have hix := HIX.out wc
            go_wp2_with fail
            clear hix
            refine HBY.out.mono ?_
            rintro e w3 ⟨v8, rfl, ⟨hro8, hnb8⟩, hu8⟩
            have HG03 := Lib.hid (HUPG.out wc w3 _ HG02.out hu8 (fun j hj => (HRO.out wc HG2.out).base_ j hj))
            have HRO8 := Lib.hid hro8
            obtain ⟨A8, c8, rfl, hc8⟩ := hro8.slice
            obtain ⟨acc2, hacc2⟩ : ∃ acc2, acc2 = bysD acc (strOfNums [bi]) := ⟨_, rfl⟩
            have hl2 : acc2.length ≤ i + 1 := by rw [hacc2]; have := bysD_len acc (strOfNums [bi]); rw [← HNA.out] at this; omega
            have hs2' : ∀ p ∈ acc2, p.f2.size ≤ i + 1 := by rw [hacc2]; exact bysD_size HPS.out (by rw [str_size]; rfl)
            rw [← hacc2] at HRO8 HMK2 ⊢
            have HL2 := Lib.hid hl2
            have HS2 := Lib.hid hs2'
            obtain ⟨n2, hn2⟩ : ∃ n2, n2 = acc2.length := ⟨_, rfl⟩
            have HN2x := Lib.hid hn2
            have HRO9 := Lib.hid (show RowO w3 B0 43 3 (.slice A8 n2 c8) acc2.length (pcs acc2) from by rw [hn2]; exact HRO8.out)
            rw [← hn2] at ⊢
            clear hro8 hnb8 hu8 hacc2 hl2 hs2' hc8 hn2
            have wi : IntKind.i64.wrap ((i : Int) + 1) = (i : Int) + 1 := IntWalk.i64_in _ (by omega)
            by_cases hkr : kn2 = true ∧ size < rem
            · obtain ⟨rfl, hsr⟩ := hkr
              have g1 : decide (size < rem) = true := decide_eq_true hsr
              have g2 : decide ((size : Int) < (rem : Int)) = true := decide_eq_true (by omega)
              have hkk := HKN2.out rfl
              have hrr := HREM.out
              have hro := roll_on t i size hs1 (by omega)
              rw [← HBI.out, ← hkk.2] at hro
              have wsz : IntKind.i64.wrap ((i : Int) + (size : Int)) = (i : Int) + (size : Int) := IntWalk.i64_in _ (by omega)
              have hix2 := fun wx => index_bt t (i + size) (by omega) wx
              rw [show ((i + size : Nat) : Int) = (i : Int) + (size : Int) from by omega] at hix2
              have hbr2 := bt_range t ((i : Int) + (size : Int))
              obtain ⟨bj, hbj⟩ : ∃ bj, bj = bt t ((i : Int) + (size : Int)) := ⟨_, rfl⟩
              rw [← hbj] at hix2 hro hbr2
              have HIX2 := Lib.hid hix2
              have HNX := Lib.hid (fun wx => next_c sum2 (size : Int) bi bj wx t0 t1 hbr.1 (by omega) hbr2.1 (by omega))
              obtain ⟨s9, hs9⟩ : ∃ s9, s9 = next sum2 (size : Int) bi bj := ⟨_, rfl⟩
              have hs9r := next_range sum2 (size : Int) bi bj
              rw [← hs9] at HNX hro hs9r
              have HRO5 := Lib.hid hro
              have HS9R := Lib.hid hs9r
              have g3 : (size : Int) < (rem : Int) := by omega
              clear hkk hro hix2 hbr2 hbj hs9 hs9r hrr
              go_wp2_with fail
              clear g1 g2
              apply region_grew [Is _, Is _, Is _, Is _, Is _, Is _, Is _, Is _, Is _, Is _] [([(14, none)], none), ([(2, none)], none), ([(4, none)], none), ([(16, none)], none), ([(152, some 2), (153, some 3)], none), ([(4, none)], none), ([(16, none)], none), ([(2, none)], none), ([(156, some 6), (157, some 7)], none), ([(155, some 5), (158, some 8)], none)] [(150, 0), (151, 1), (152, 2), (153, 3), (154, 4), (155, 5), (156, 6), (157, 7), (158, 8), (159, 9)] rfl (by kernel_rfl) (by kernel_rfl) (show Stable Grew _ from ⟨Is.stable _, Is.stable _, Is.stable _, Is.stable _, Is.stable _, Is.stable _, Is.stable _, Is.stable _, Is.stable _, Is.stable _, trivial⟩)
              · show OpsHold _ _ _ _ _ _ _ _ _
                refine ⟨fun a_ wx hR hD K hK => ?_, ?_⟩
                · have hG : Grew w3 wx := (Grew.drew _).trans hR
                  simp [Deps, Dep, at_, Is] at hD
                  go_simp
                  exact hK _ _ (Grew.refl _) rfl
                refine ⟨fun a_ wx hR hD K hK => ?_, ?_⟩
                · have hG : Grew w3 wx := (Grew.drew _).trans hR
                  simp [Deps, Dep, at_, Is] at hD
                  go_simp
                  exact hK _ _ (Grew.refl _) rfl
                refine ⟨fun a_ wx hR hD K hK => ?_, ?_⟩
                · have hG : Grew w3 wx := (Grew.drew _).trans hR
                  simp [Deps, Dep, at_, Is] at hD
                  go_simp
                  exact hK _ _ (Grew.refl _) rfl
                refine ⟨fun a_ wx hR hD K hK => ?_, ?_⟩
                · have hG : Grew w3 wx := (Grew.drew _).trans hR
                  simp [Deps, Dep, at_, Is] at hD
                  go_simp
                  exact hK _ _ (Grew.refl _) rfl
                refine ⟨fun a_ wx hR hD K hK => ?_, ?_⟩
                · have hG : Grew w3 wx := (Grew.drew _).trans hR
                  simp [Deps, Dep, at_, Is] at hD
                  obtain ⟨hd0, hd1⟩ := hD
                  have e_ := HIX.out wx
                  go_simp
                  exact hK _ _ (Grew.refl _) rfl
                refine ⟨fun a_ wx hR hD K hK => ?_, ?_⟩
                · have hG : Grew w3 wx := (Grew.drew _).trans hR
                  simp [Deps, Dep, at_, Is] at hD
                  go_simp
                  exact hK _ _ (Grew.refl _) rfl
                refine ⟨fun a_ wx hR hD K hK => ?_, ?_⟩
                · have hG : Grew w3 wx := (Grew.drew _).trans hR
                  simp [Deps, Dep, at_, Is] at hD
                  go_simp
                  exact hK _ _ (Grew.refl _) rfl
                refine ⟨fun a_ wx hR hD K hK => ?_, ?_⟩
                · have hG : Grew w3 wx := (Grew.drew _).trans hR
                  simp [Deps, Dep, at_, Is] at hD
                  go_simp
                  exact hK _ _ (Grew.refl _) rfl
                refine ⟨fun a_ wx hR hD K hK => ?_, ?_⟩
                · have hG : Grew w3 wx := (Grew.drew _).trans hR
                  simp [Deps, Dep, at_, Is] at hD
                  obtain ⟨hd0, hd1⟩ := hD
                  go_simp
                  exact hK _ _ (Grew.refl _) rfl
                refine ⟨fun a_ wx hR hD K hK => ?_, ?_⟩
                · have hG : Grew w3 wx := (Grew.drew _).trans hR
                  simp [Deps, Dep, at_, Is] at hD
                  obtain ⟨hd0, hd1⟩ := hD
                  have e_ := HIX2.out wx
                  go_simp
                  exact hK _ _ (Grew.refl _) rfl
                trivial
              · show EndHold _ _ _ _ _ _ _
                refine end_all (xs := [_, _, _, _, _, _, _, _, _, _]) ⟨rfl, rfl, rfl, rfl, rfl, rfl, rfl, rfl, rfl, rfl, trivial⟩ ?_
                rintro w4 hR1 -
                refine ⟨?_⟩
                have hG_w4 : Grew w3 w4 := (Grew.drew _).trans hR1
                clear hR1
                simp only [Act.put, List.setIfInBounds_toArray, List.set_cons_succ, List.set_cons_zero, dropN, putEach]
                go_wp2_with fail
                refine (HNX.out w4).mono ?_
                rintro e w5 ⟨_, rfl, rfl, hg5⟩
                have hg35 := Grew.trans hG_w4 hg5
                go_wp2_with fail
                go_roundw
                case rel => exact ⟨i + 1, f, acc2, s9, true, by go_num, by omega, rfl, rfl, by omega, HMK2.out, HRO9.out.grew hg35, HL2.out, HS2.out, HS9R.out.1, HS9R.out.2, fun _ => ⟨by omega, HRO5.out⟩, Grew.trans HG03.out hg35⟩
                case measure => simp [intOf]; omega
            · have hcs : kn2 = false ∨ (kn2 = true ∧ ¬ size < rem) := by
                cases kn2 with
                | false => exact .inl rfl
                | true => exact .inr ⟨rfl, fun h => hkr ⟨rfl, h⟩⟩
              clear hkr
              rcases hcs with rfl | ⟨rfl, hsr⟩
              · go_wp2_with fail
                go_roundw
                case rel => exact ⟨i + 1, f, acc2, sum2, false, by go_num, by omega, rfl, rfl, by omega, HMK2.out, HRO9.out, HL2.out, HS2.out, t0, t1, fun h => absurd h (by decide), HG03.out⟩
                case measure => simp [intOf]; omega
              · have g1 : decide (size < rem) = false := decide_eq_false hsr
                have g2 : decide ((size : Int) < (rem : Int)) = false := decide_eq_false (by omega)
                go_wp2_with fail
                go_roundw
                case rel => exact ⟨i + 1, f, acc2, sum2, false, by go_num, by omega, rfl, rfl, by omega, HMK2.out, HRO9.out, HL2.out, HS2.out, t0, t1, fun h => absurd h (by decide), HG03.out⟩
                case measure => simp [intOf]; omega
        · obtain rfl : i = T := by omega
          have d1 : decide ((i : Int) < (i : Int)) = false := decide_eq_false (by omega)
          have d2 : decide (i < i) = false := decide_eq_false (by omega)
          have hRa : R = acc := by rw [← HMK.out]; exact mkD_end (by rw [hT']; omega)
          have HRA := Lib.hid hRa
          clear hRa
          obtain ⟨A8, c8, hv8, hc8, hC8⟩ := rowP_C (HRO.out wr (Grew.refl _)) HNA.out.symm
          injection hv8 with hv81 hv82 hv83
          subst hv81 hv83
          have HC8 := Lib.hid hC8
          clear hC8 hv82
          go_wp2_with fail
          rw [Exit.noGoto_ret]
          go_ret2
          exact ⟨_, rfl, ⟨Av, cv, by rw [HRA.out, ← HNA.out]; rfl, by rw [HRA.out, ← HNA.out]; exact hc8, by rw [HRA.out, ← HNA.out]; exact HC8.out⟩, HGC.out _ HGR.out⟩
end Go.Proofs.Ytimcafohmahapaa.F

-- DelL
namespace Go.Proofs.Ytimcafohmahapaa.F
open Go Go.RowKit Go.Proofs.YtimcafohmahapaaW.PrintWords Go.Proofs.YtimcafohmahapaaW.PrintLast Go.Proofs.YtimcafohmahapaaW.PrintMore Go.Proofs.YtimcafohmahapaaM Go.Proofs.YtimcafohmahapaaR
attribute [local go_sem] max2_int min2_int max_two min_two
set_option linter.unusedSimpArgs false
set_option linter.unusedVariables false
set_option maxRecDepth 100000
theorem oneS_wf (key b : ByteArray) : (Lit.int .u32 (oneS key b).f0).wf = true := u32wf (weak_range _).1 (weak_range _).2
theorem own_rowP {w : World} {base g : Nat} {l : List Pc} (h : Blk w g 43 (pcs l)) (hb : base ≤ g) (hm : l.length ≤ 1000000) : RowO w base 43 3 (.slice (some ⟨g, 0, none⟩) l.length l.length) l.length (pcs l) :=
  ⟨pcs_len l, .inr ⟨g, 0, l.length, (pcs l).toArray, rfl, hb, h, Nat.le_refl _, by unfold maxLen; omega, by simp [pcs_len], by rw [List.drop_zero, ← pcs_len]; simp⟩⟩
def exT : ByteArray := ⟨#[99, 100, 88, 97, 98]⟩
def exB : ByteArray := ⟨#[97, 98, 99, 100]⟩
def exK : ByteArray := ⟨#[107]⟩
theorem ex_blocks : sign_Blocks.f 10 exB 2 = some ([⟨#[97, 98]⟩, ⟨#[99, 100]⟩], 0) := by decide +kernel
theorem ex_w (a b : ByteArray) (h : weak (bytesOf a) ≠ weak (bytesOf b)) : isS (oneS exK a) (oneS exK b) = false := by
  unfold isS oneS
  simp only
  rw [decide_eq_false (fun e => h e.symm), Bool.false_and]
theorem ex_e (a : ByteArray) : isS (oneS exK a) (oneS exK a) = true := (isS_iff _ _).2 rfl
theorem ex_make : mkD exK [oneS exK ⟨#[97, 98]⟩, oneS exK ⟨#[99, 100]⟩] 2 2 exT 6 0 [] = [⟨true, 1, ⟨#[]⟩⟩, ⟨false, 0, ⟨#[88]⟩⟩, ⟨true, 0, ⟨#[]⟩⟩] := by
  have hs : exT.size = 5 := rfl
  have e0 : exT.extract 0 (0 + 2) = ⟨#[99, 100]⟩ := by decide +kernel
  have e2 : exT.extract 2 (2 + 2) = ⟨#[88, 97]⟩ := by decide +kernel
  have e3 : exT.extract 3 (3 + 2) = ⟨#[97, 98]⟩ := by decide +kernel
  have w1 : weak (bytesOf ⟨#[99, 100]⟩) ≠ weak (bytesOf ⟨#[97, 98]⟩) := by decide +kernel
  have w2 : weak (bytesOf ⟨#[88, 97]⟩) ≠ weak (bytesOf ⟨#[97, 98]⟩) := by decide +kernel
  have w3 : weak (bytesOf ⟨#[88, 97]⟩) ≠ weak (bytesOf ⟨#[99, 100]⟩) := by decide +kernel
  have hb : strOfNums [bt exT ((2 : Nat) : Int)] = ⟨#[88]⟩ := by decide +kernel
  have hw : wholeS [oneS exK ⟨#[97, 98]⟩, oneS exK ⟨#[99, 100]⟩] 2 2 = [oneS exK ⟨#[97, 98]⟩, oneS exK ⟨#[99, 100]⟩] := rfl
  have f0 : [oneS exK ⟨#[97, 98]⟩, oneS exK ⟨#[99, 100]⟩].findIdx? (isS (oneS exK ⟨#[99, 100]⟩)) = some 1 := by
    rw [List.findIdx?_cons, ex_w _ _ w1, List.findIdx?_cons, ex_e]; rfl
  have f2 : [oneS exK ⟨#[97, 98]⟩, oneS exK ⟨#[99, 100]⟩].findIdx? (isS (oneS exK ⟨#[88, 97]⟩)) = none := by
    rw [List.findIdx?_cons, ex_w _ _ w2, List.findIdx?_cons, ex_w _ _ w3]; rfl
  have f3 : [oneS exK ⟨#[97, 98]⟩, oneS exK ⟨#[99, 100]⟩].findIdx? (isS (oneS exK ⟨#[97, 98]⟩)) = some 0 := by
    rw [List.findIdx?_cons, ex_e]; rfl
  rw [mkD, hs, if_pos (by decide), if_pos (by decide), hw, e0, f0]
  simp only
  rw [mkD, hs, if_pos (by decide), if_pos (by decide), hw, show 0 + 2 = 2 from rfl, e2, f2]
  simp only
  rw [hb, mkD, hs, if_pos (by decide), if_pos (by decide), hw, show 2 + 1 = 3 from rfl, e3, f3]
  simp only
  rw [mkD_end (by rw [hs]; decide)]
  rfl
set_option maxHeartbeats 4000000 in
theorem lives_c (w : World) : Calls Try.prog 9 #[] w (Tells w (Is (.bool true))) := by
  have hsg := fun wx => signs_c wx exK exB 2 10 _ 0 ex_blocks (fun h => absurd rfl h) (by simp) (by intro b hb; simp at hb; rcases hb with rfl | rfl <;> decide) (by decide)
  obtain ⟨SG, hSG⟩ : ∃ SG : List Sg, SG = [oneS exK ⟨#[97, 98]⟩, oneS exK ⟨#[99, 100]⟩] := ⟨_, rfl⟩
  have hmap : List.map (oneS exK) [⟨#[97, 98]⟩, ⟨#[99, 100]⟩] = SG := by rw [hSG]; rfl
  rw [hmap] at hsg
  have hsl : SG.length = 2 := by rw [hSG]; rfl
  have HSG := Lib.hid hsg
  have HMK := Lib.hid (fun (wx : World) (A : Option Addr) (c : Nat) (h : Kd.C k64 wx A 2 SG) (hc : 2 ≤ c) => show Calls Try.prog 17 #[.string exK, .slice A 2 c, .int .i64 2, .int .i64 2, .string exT] wx (Tells wx (DecT ([⟨true, 1, ⟨#[]⟩⟩, ⟨false, 0, ⟨#[88]⟩⟩, ⟨true, 0, ⟨#[]⟩⟩], 0))) from by
    have h9 := make_c wx exK exT SG A c 2 2 (by rw [hsl]; exact h) (by rw [hsl]; exact hc) (by omega) (by omega) (by omega) ⟨fun h => by omega, fun h => by omega⟩ (by decide) (by omega) (by decide) (by intro x hx; rw [hSG] at hx; simp at hx; rcases hx with rfl | rfl <;> exact oneS_wf _ _)
    rw [hsl, show exT.size + 1 = 6 from rfl, hSG, ex_make] at h9
    exact h9)
  have HSL := Lib.hid hsl
  have HK := Lib.hid (show exK = ⟨#[107]⟩ from rfl)
  have HB := Lib.hid (show exB = ⟨#[97, 98, 99, 100]⟩ from rfl)
  have HT := Lib.hid (show exT = ⟨#[99, 100, 88, 97, 98]⟩ from rfl)
  rw [HK.out, HB.out] at HSG
  rw [HK.out, HT.out] at HMK
  clear hsg hmap hsl hSG
  go_enter Try.func9, Try.ntmps9
  go_wp2_with fail
  refine (HSG.out w).mono ?_
  rintro e w1 ⟨_, rfl, ⟨v0, rfl, hown⟩, hg1⟩
  obtain ⟨A1, c1, rfl, hc1, hC1⟩ := sg_C hown rfl
  rw [HSL.out] at hc1 hC1 ⊢
  have HC1 := Lib.hid hC1
  clear hown hC1
  go_wp2_with fail
  refine (HMK.out w1 A1 c1 HC1.out hc1).mono ?_
  rintro e w2 ⟨_, rfl, ⟨A2, c2, rfl, hc2, hC2⟩, hg2⟩
  simp only [List.length_cons, List.length_nil, Nat.zero_add, Nat.reduceAdd] at hc2 hC2 ⊢
  have HC2 := Lib.hid hC2
  have HSA := Lib.hid (fun (wx : World) (h : Grew w2 wx) (hb : Blk wx w2.heap.size 43 (pcs [⟨true, 1, ⟨#[]⟩⟩, ⟨false, 0, ⟨#[88]⟩⟩, ⟨true, 0, ⟨#[]⟩⟩])) => show Calls Try.prog 12 #[.slice A2 3 c2, .slice (some ⟨w2.heap.size, 0, none⟩) 3 3] wx (Tells wx (Is (.bool true))) from by
    obtain ⟨A9, c9, hv9, hc9, hC9⟩ := rowP_C (own_rowP (base := 0) hb (Nat.zero_le _) (by simp)) rfl
    injection hv9 with h1 h2 h3
    subst h1 h3
    exact same_c A2 _ 3 c2 3 _ wx (Kd.C_below HC2.out h) hC9 rfl hc2 (Nat.le_refl _) (by omega))
  clear hC2
  go_wp2_with fail
  refine (HSA.out _ (Grew.alloc _ _) (Blk.new _ _ (pcs [⟨true, 1, ⟨#[]⟩⟩, ⟨false, 0, ⟨#[88]⟩⟩, ⟨true, 0, ⟨#[]⟩⟩]))).mono ?_
  rintro e w3 ⟨_, rfl, rfl, hg3⟩
  go_wp2_with fail
  go_ret
  exact ⟨_, rfl, rfl, Grew.trans hg1 (Grew.trans hg2 (Grew.trans (Grew.alloc _ _) hg3))⟩
end Go.Proofs.Ytimcafohmahapaa.F
