/- The row of the law MacChecks: for every input the law's call returns true, whatever memory; no condition. Out of the contract MacChecks_c. -/
import Derived.Test.YtkglpcajjieblaaSC
import Derived.Test.YtkglpcajjieblaaRows
import Derived.WalkKit
import Derived.ProofKit
import Derived.OpenShut
import Derived.ShutString
import Derived.ChangeOld
import Derived.Below
import Derived.SizedLaws
import Derived.Test.YtkglpcajjieblaaWSized

-- MacC
namespace Go.Proofs.Ytkglpcajjieblaa.F
open Go Go.RowKit Go.Proofs.YtkglpcajjieblaaW.PrintWords Go.Proofs.YtkglpcajjieblaaW.PrintLast Go.Proofs.YtkglpcajjieblaaW.PrintMore Go.Proofs.YtkglpcajjieblaaR
attribute [local go_sem] max2_int min2_int max_two min_two
set_option linter.unusedSimpArgs false
set_option linter.unusedVariables false
set_option maxRecDepth 100000
theorem xor_b {a b : Nat} (ha : a < 256) (hb : b < 256) : Go.bits .xor .u8 (a : Int) (b : Int) = ((a ^^^ b : Nat) : Int) := by
  have h : a ^^^ b < 256 := Nat.xor_lt_two_pow (n := 8) ha hb
  unfold Go.bits
  simp only [show IntKind.u8.bits = 8 from rfl]
  rw [BitVec.toNat_xor, BitVec.toNat_ofInt, BitVec.toNat_ofInt]
  rw [show ((a : Int) % ((2 ^ IntKind.u8.bits : Nat) : Int)).toNat = a from by show ((a : Int) % 256).toNat = a; omega, show ((b : Int) % ((2 ^ IntKind.u8.bits : Nat) : Int)).toNat = b from by show ((b : Int) % 256).toNat = b; omega]
  rw [IntKind.wrap_u8]; omega
theorem xor_zero (a b : Nat) : a ^^^ b = 0 ↔ a = b := by
  constructor
  · intro h
    have h1 : (a ^^^ b) ^^^ b = 0 ^^^ b := by rw [h]
    rw [Nat.xor_assoc, Nat.xor_self, Nat.xor_zero, Nat.zero_xor] at h1
    exact h1
  · rintro rfl
    exact Nat.xor_self _
theorem or_b {a b : Nat} (ha : a < 256) (hb : b < 256) : Go.bits .or .u8 (a : Int) (b : Int) = ((a ||| b : Nat) : Int) :=
  (bits_nat .u8 8 (Nat.le_refl _) (fun n h0 h3 => by rw [IntKind.wrap_u8]; omega) a b ha hb).2
theorem bt_at (s : ByteArray) (i : Nat) (h : i < s.size) (w' : World) : Sem.run Try.prog (Instr.index 9 (.string s) (.int .i64 (i : Int))) w' = .ok (.int .u8 ((s[i].toNat : Nat) : Int)) w' := by
  rw [run_index_string w' _ s .i64 _ (by rfl), dif_pos ⟨by omega, by omega⟩]; rfl
set_option maxHeartbeats 2000000 in
theorem check_c (w : World) (key message sl : ByteArray) (hk : key.size ≤ 100000000) (hm : message.size ≤ 100000000) :
    Calls Try.prog 19 #[.string key, .string message, .string sl] w (Tells w (Is (.bool (decide (sl = strOfNums (sealL (bytesOf key) (bytesOf message))))))) := by
  have h1 := fun w => seal_c w (bytesOf key) (bytesOf message) (bytesOf_bytes _) (bytesOf_bytes _) (by rw [bytesOf_length]; omega) (by rw [bytesOf_length]; omega)
  obtain ⟨S, hS⟩ : ∃ S, S = strOfNums (sealL (bytesOf key) (bytesOf message)) := ⟨_, rfl⟩
  have hs32 : S.size = 32 := by rw [hS, str_size, sealL_len]
  simp only [← hS, str_bytes] at h1
  rw [← hS]
  have H1 := Lib.hid h1
  have H32 := Lib.hid hs32
  obtain ⟨ns, hns⟩ : ∃ ns, ns = sl.size := ⟨_, rfl⟩
  have hns' := hns.symm
  have HNS := Lib.hid hns'
  clear h1 hS hk hm hns
  by_cases hl : ns = 32
  · subst hl
    go_enter Try.func19, Try.ntmps19
    go_wp2_with fail
    refine (H1.out w).mono ?_
    rintro e w1 ⟨_, rfl, rfl, hg1⟩
    go_wp2_with fail
    clear hs32 hns'
    go_loopw [8, 20] (fun v8 iv wq => ∃ (i d : Nat), v8 = .int .u8 (d : Int) ∧ iv = .int .i64 (i : Int) ∧ i ≤ 32 ∧ d < 256 ∧ (d = 0 ↔ ∀ j, j < i → S[j]? = sl[j]?) ∧ Grew w wq) (fun _ iv _ => 32 - (intOf iv).toNat)
    case atStart => exact ⟨0, 0, rfl, rfl, by omega, by omega, ⟨fun _ j hj => by omega, fun _ => rfl⟩, hg1⟩
    case round =>
      obtain ⟨i, d, rfl, rfl, hi, hd, hdi, hg⟩ := hrel
      by_cases hlt : i < 32
      · have d1 : decide ((i : Int) < 32) = true := decide_eq_true (by omega)
        have b1 : i < S.size := by rw [H32.out]; exact hlt
        have b2 : i < sl.size := by rw [HNS.out]; exact hlt
        have I1 := bt_at S i b1
        have I2 := bt_at sl i b2
        have g1 : S[i]? = some S[i] := ByteArray.getElem?_lt' S i b1
        have g2 : sl[i]? = some sl[i] := ByteArray.getElem?_lt' sl i b2
        have x1 := S[i].toNat_lt
        have x2 := sl[i].toNat_lt
        have hxy : S[i].toNat = sl[i].toNat ↔ S[i] = sl[i] := UInt8.toNat_inj
        obtain ⟨x, hx⟩ : ∃ x, x = S[i].toNat := ⟨_, rfl⟩
        obtain ⟨y, hy⟩ : ∃ y, y = sl[i].toNat := ⟨_, rfl⟩
        rw [← hx] at I1 hxy x1
        rw [← hy] at I2 hxy x2
        have hxl : x ^^^ y < 256 := Nat.xor_lt_two_pow (n := 8) x1 x2
        have f1 := xor_b x1 x2
        have f2 := or_b hd hxl
        obtain ⟨z, hz⟩ : ∃ z, z = x ^^^ y := ⟨_, rfl⟩
        rw [← hz] at f1 f2 hxl
        obtain ⟨d2, hd2⟩ : ∃ d2, d2 = d ||| z := ⟨_, rfl⟩
        rw [← hd2] at f2
        have hd2l : d2 < 256 := by rw [hd2]; exact Nat.or_lt_two_pow (n := 8) hd hxl
        have hz0 : d2 = 0 ↔ d = 0 ∧ x = y := by
          rw [hd2, Nat.or_eq_zero_iff, hz, xor_zero]
        have hnew : d2 = 0 ↔ ∀ j, j < i + 1 → S[j]? = sl[j]? := by
          rw [hz0, hdi, hxy]
          constructor
          · rintro ⟨h1, h2⟩ j hj
            by_cases e : j = i
            · subst e; rw [g1, g2, h2]
            · exact h1 j (by omega)
          · intro h
            refine ⟨fun j hj => h j (by omega), ?_⟩
            have := h i (by omega)
            rw [g1, g2] at this
            exact Option.some.inj this
        have HNew := Lib.hid hnew
        have HG := Lib.hid hg
        clear hnew hg hdi hz0 hd2 hz hxy hx hy g1 g2 b1 b2
        go_wp2_with fail
        apply region_grew [Is _, Is _, Is _, Is _, Is _, Is _, Is _, Is _] [([(8, none)], none), ([(7, none)], none), ([(9, none)], none), ([(24, some 1), (25, some 2)], none), ([(2, none)], none), ([(9, none)], none), ([(27, some 4), (28, some 5)], none), ([(26, some 3), (29, some 6)], none)] [(23, 0), (24, 1), (25, 2), (26, 3), (27, 4), (28, 5), (29, 6), (30, 7)] rfl (by kernel_rfl) (by kernel_rfl) (show Stable Grew _ from ⟨Is.stable _, Is.stable _, Is.stable _, Is.stable _, Is.stable _, Is.stable _, Is.stable _, Is.stable _, trivial⟩)
        · show OpsHold _ _ _ _ _ _ _ _ _
          refine ⟨fun a_ wx hR hD K hK => ?_, ?_⟩
          · have hG : Grew wr wx := (Grew.drew _).trans hR
            simp [Deps, Dep, at_, Is] at hD
            go_simp
            exact hK _ _ (Grew.refl _) rfl
          refine ⟨fun a_ wx hR hD K hK => ?_, ?_⟩
          · have hG : Grew wr wx := (Grew.drew _).trans hR
            simp [Deps, Dep, at_, Is] at hD
            go_simp
            exact hK _ _ (Grew.refl _) rfl
          refine ⟨fun a_ wx hR hD K hK => ?_, ?_⟩
          · have hG : Grew wr wx := (Grew.drew _).trans hR
            simp [Deps, Dep, at_, Is] at hD
            go_simp
            exact hK _ _ (Grew.refl _) rfl
          refine ⟨fun a_ wx hR hD K hK => ?_, ?_⟩
          · have hG : Grew wr wx := (Grew.drew _).trans hR
            simp [Deps, Dep, at_, Is] at hD
            obtain ⟨hd0, hd1⟩ := hD
            go_simp
            exact hK _ _ (Grew.refl _) rfl
          refine ⟨fun a_ wx hR hD K hK => ?_, ?_⟩
          · have hG : Grew wr wx := (Grew.drew _).trans hR
            simp [Deps, Dep, at_, Is] at hD
            go_simp
            exact hK _ _ (Grew.refl _) rfl
          refine ⟨fun a_ wx hR hD K hK => ?_, ?_⟩
          · have hG : Grew wr wx := (Grew.drew _).trans hR
            simp [Deps, Dep, at_, Is] at hD
            go_simp
            exact hK _ _ (Grew.refl _) rfl
          refine ⟨fun a_ wx hR hD K hK => ?_, ?_⟩
          · have hG : Grew wr wx := (Grew.drew _).trans hR
            simp [Deps, Dep, at_, Is] at hD
            obtain ⟨hd0, hd1⟩ := hD
            go_simp
            exact hK _ _ (Grew.refl _) rfl
          refine ⟨fun a_ wx hR hD K hK => ?_, ?_⟩
          · have hG : Grew wr wx := (Grew.drew _).trans hR
            simp [Deps, Dep, at_, Is] at hD
            obtain ⟨hd0, hd1⟩ := hD
            go_simp
            exact hK _ _ (Grew.refl _) rfl
          trivial
        · show EndHold _ _ _ _ _ _ _
          refine end_all (xs := [_, _, _, _, _, _, _, _]) ⟨rfl, rfl, rfl, rfl, rfl, rfl, rfl, rfl, trivial⟩ ?_
          rintro w5 hR1 -
          refine ⟨?_⟩
          have hG_w5 : Grew wr w5 := (Grew.drew _).trans hR1
          clear hR1
          simp only [Act.put, List.setIfInBounds_toArray, List.set_cons_succ, List.set_cons_zero, dropN, putEach]
          go_wp2_with fail
          go_roundw
          case rel => exact ⟨i + 1, d2, rfl, by go_num, by omega, hd2l, HNew.out, Grew.trans HG.out hG_w5⟩
          case measure => simp [intOf]; omega
      · have d1 : decide ((i : Int) < 32) = false := decide_eq_false (by omega)
        obtain rfl : i = 32 := by omega
        have hfin : (d = 0) ↔ sl = S := by
          rw [hdi]
          constructor
          · intro h
            apply ByteArray.ext
            apply Array.ext_getElem?
            intro j
            by_cases hj : j < 32
            · have := h j hj
              have j1 : j < S.size := by rw [H32.out]; exact hj
              have j2 : j < sl.size := by rw [HNS.out]; exact hj
              rw [ByteArray.getElem?_lt' S j j1, ByteArray.getElem?_lt' sl j j2] at this
              have e1 : sl.data[j]? = some sl[j] := by
                have : j < sl.data.size := by have := HNS.out; show j < sl.size; omega
                rw [Array.getElem?_eq_getElem this]; rfl
              have e2 : S.data[j]? = some S[j] := by
                have : j < S.data.size := by have := H32.out; show j < S.size; omega
                rw [Array.getElem?_eq_getElem this]; rfl
              rw [e1, e2]; exact this.symm
            · rw [Array.getElem?_eq_none (by have := HNS.out; show sl.size ≤ j; omega), Array.getElem?_eq_none (by have := H32.out; show S.size ≤ j; omega)]
          · rintro rfl j _; rfl
        obtain ⟨r, hr⟩ : ∃ r, r = decide (sl = S) := ⟨_, rfl⟩
        have hdr : ((d : Int) == 0) = r := by
          rw [hr, Bool.eq_iff_iff]
          simp only [beq_iff_eq, decide_eq_true_eq]
          rw [← hfin]; omega
        have hdr2 : decide ((d : Int) = 0) = r := by rw [← hdr]; rfl
        have hdr3 : decide (d = 0) = r := by rw [hr]; exact decide_eq_decide.2 hfin
        have HRr := Lib.hid hr
        clear hfin hdi hr
        cases r
        · have hd0 : ¬ d = 0 := of_decide_eq_false hdr3
          clear hdr hdr2 hdr3
          go_wp2_with fail
          go_ret
          refine ⟨_, rfl, ?_, hg⟩
          rw [← HRr.out]
          show Value.bool _ = Value.bool false
          simp; omega
        · have hd0 : d = 0 := of_decide_eq_true hdr3
          subst hd0
          clear hdr hdr2 hdr3
          go_wp2_with fail
          go_ret
          refine ⟨_, rfl, ?_, hg⟩
          rw [← HRr.out]
          rfl
  · have hne : ¬ sl = S := fun e => hl (by rw [← hns', e, hs32])
    have hd : decide (sl = S) = false := decide_eq_false hne
    rw [hd]
    have n1 : ¬ (32 : Int) = (ns : Int) := by omega
    have n2 : ¬ 32 = ns := by omega
    clear hne hd
    go_enter Try.func19, Try.ntmps19
    go_wp2_with fail
    refine (H1.out w).mono ?_
    rintro e w1 ⟨_, rfl, rfl, hg1⟩
    go_wp2_with fail
    go_ret
    exact ⟨_, rfl, rfl, hg1⟩
end Go.Proofs.Ytkglpcajjieblaa.F

-- MacChecks
namespace Go.Proofs.Ytkglpcajjieblaa.F
open Go Go.RowKit Go.Proofs.YtkglpcajjieblaaW.PrintWords Go.Proofs.YtkglpcajjieblaaW.PrintLast Go.Proofs.YtkglpcajjieblaaW.PrintMore Go.Proofs.YtkglpcajjieblaaR
attribute [local go_sem] max2_int min2_int max_two min_two
set_option linter.unusedSimpArgs false
set_option linter.unusedVariables false
set_option maxRecDepth 100000
theorem three_C (w : World) (a b c : ByteArray) : Kd.C Kd.string (w.alloc (.cells #[.string a, .string b, .string c] 9)) (some ⟨w.heap.size, 0, none⟩) 3 [a, b, c] :=
  Kd.C_of_reads (h1 := fun _ => rfl) ((Blk.new w 9 (encs Value.string [a, b, c])).reads_of (d := ByteArray.empty) (by simp))
theorem toList_beq (a b : ByteArray) : (a.toList == b.toList) = decide (a = b) := by
  rw [Bool.eq_iff_iff]
  simp only [beq_iff_eq, decide_eq_true_eq]
  constructor
  · intro h
    rw [ByteArray.toList_eq, ByteArray.toList_eq] at h
    apply ByteArray.ext
    exact Array.toList_inj.1 h
  · rintro rfl; rfl
set_option maxHeartbeats 2000000 in
theorem MacChecks_c (w : World) (key message sl : ByteArray) (hk : key.size ≤ 140737488351232) (hm : message.size ≤ 140737488351232) (hs : sl.size ≤ 140737488351232) :
    Calls Try.prog 8 #[.string key, .string message, .string sl] w (Tells w (Is (.bool true))) := by
  obtain ⟨b, hb, hsm⟩ := small_c [key, message, sl] (by intro s hs; simp at hs; rcases hs with rfl | rfl | rfl <;> assumption)
  have hs0 := hsm _ _ 3 3 (three_C w key message sl) rfl (Nat.le_refl _)
  have HS0 := Lib.hid hs0
  cases b
  · clear hk hm hs hb hsm hs0
    go_enter Try.func8, Try.ntmps8
    go_wp2_with fail
    refine HS0.out.mono ?_
    rintro e w1 ⟨_, rfl, rfl, hg1⟩
    go_wp2_with fail
    refine (lives_c w1).mono ?_
    rintro e w2 ⟨_, rfl, rfl, hg2⟩
    go_wp2_with fail
    go_ret
    exact ⟨_, rfl, rfl, Grew.trans (Grew.trans (Grew.alloc _ _) hg1) hg2⟩
  · have hsum := (hb rfl).1
    simp only [List.map_cons, List.map_nil, List.sum_cons, List.sum_nil] at hsum
    have h1 := fun w => seal_c w (bytesOf key) (bytesOf message) (bytesOf_bytes _) (bytesOf_bytes _) (by rw [bytesOf_length]; omega) (by rw [bytesOf_length]; omega)
    have h2 := fun w => check_c w key message (strOfNums (sealL (bytesOf key) (bytesOf message))) (by omega) (by omega)
    have h3 := fun w => check_c w key message sl (by omega) (by omega)
    obtain ⟨S, hS⟩ : ∃ S, S = strOfNums (sealL (bytesOf key) (bytesOf message)) := ⟨_, rfl⟩
    simp only [← hS, str_bytes] at h1 h2 h3
    simp only [decide_true] at h2
    have heq := toList_beq sl S
    obtain ⟨r, hr⟩ : ∃ r, r = decide (sl = S) := ⟨_, rfl⟩
    rw [← hr] at heq h3
    have H1 := Lib.hid h1
    have H2 := Lib.hid h2
    have H3 := Lib.hid h3
    clear hk hm hs hb hsm hs0 hsum h1 h2 h3 hS hr
    cases r
    all_goals
      go_enter Try.func8, Try.ntmps8
      go_wp2_with fail
      refine HS0.out.mono ?_
      rintro e w1 ⟨_, rfl, rfl, hg1⟩
      go_wp2_with fail
      refine (H1.out w1).mono ?_
      rintro e w2 ⟨_, rfl, rfl, hg2⟩
      go_wp2_with fail
      refine (H2.out w2).mono ?_
      rintro e w3 ⟨_, rfl, rfl, hg3⟩
      go_wp2_with fail
      refine (H3.out w3).mono ?_
      rintro e w4 ⟨_, rfl, rfl, hg4⟩
      go_wp2_with fail
      refine (lives_c w4).mono ?_
      rintro e w5 ⟨_, rfl, rfl, hg5⟩
      go_wp2_with fail
      go_ret
      exact ⟨_, rfl, rfl, Grew.trans (Grew.trans (Grew.trans (Grew.trans (Grew.trans (Grew.alloc _ _) hg1) hg2) hg3) hg4) hg5⟩
end Go.Proofs.Ytkglpcajjieblaa.F

-- RowMacChecks
namespace Go.Proofs.Ytkglpcajjieblaa.macChecks
open Go.ChangeShapes Go.WideShapes Go.ChangeAt Go.RowKit
open Go.ChangeMaps (open_string shut_string)
set_option linter.unusedVariables false
set_option linter.unusedSimpArgs false
theorem own : ownKnob Try.prog.godebug = none := by kernel_rfl
theorem laidOut : laidOutB Try.prog = true := by kernel_rfl
set_option maxRecDepth 100000 in
theorem lifted (os : Os) (started : os.Started) (H : Type) (enc : TypeId × Value → H) :
    ReturnsInHanded {} Try.checked os 8 .any (Rows.macChecksSpec.pre6 enc Try.prog Try.f8 Rows.macChecksRow.domain false) (Rows.macChecksSpec.post enc Try.prog Try.f8 false true false false) := by
  refine returnsInHanded_of_change_sized (C := Try.checked) own started (by kernel_rfl) Try.func8
    (ChangeSpec.witness6 (enc := enc) (C := Try.checked) false ⟨#[], #[.string ByteArray.empty, .string ByteArray.empty, .string ByteArray.empty], []⟩ 8 (by kernel_rfl) (by kernel_rfl) (by kernel_rfl) (by kernel_rfl)) ?_
  intro W base args ds gs before hval0 hW hcnd hsz0 _
  have hsz : (DataW.weightsEach Try.prog (Try.f8.params.toList ++ Rows.macChecksSpec.plain.varTypes Try.prog) (ds ++ gs)).all (· ≤ reachBytes) = true := hsz0
  have hval : ∀ (j : Nat) t v, Try.f8.params[j]? = some t → args[j]? = some v → Value.okWide Try.prog W .any base t v := hval0
  have hW' := hW
  obtain ⟨p, q, hA0, hV, rfl, hfz, hnd⟩ := hW
  have hA : DataW.TrodAll enc Try.prog W 0 (fun _ => true) true Try.f8.params.toList args.toList ds p := hA0
  rw [Try.params8] at hA hval hsz
  obtain ⟨v0, vs0, d0, ds0, p0, q0, hargs, rfl, rfl, h0, r0⟩ := trodAll_cons hA
  obtain ⟨v1, vs1, d1, ds1, p1, q1, rfl, rfl, rfl, h1, r1⟩ := trodAll_cons r0
  obtain ⟨v2, vs2, d2, ds2, p2, q2, rfl, rfl, rfl, h2, r2⟩ := trodAll_cons r1
  obtain ⟨rfl, rfl, rfl⟩ := trodAll_nil r2
  obtain rfl : args = #[v0, v1, v2] := by cases args; simp_all
  obtain ⟨rfl, rfl⟩ := trodVars_none hV
  obtain ⟨a0, rfl, rfl, rfl, y0⟩ := open_string Try.underlying9 (hval 0 9 v0 rfl rfl) h0
  have w0 : a0.size ≤ 140737488351232 := by
    have z := sized_string hsz (j := 0) (t := 9) rfl rfl
    rw [Array.length_toList] at z
    exact z
  obtain ⟨a1, rfl, rfl, rfl, y1⟩ := open_string Try.underlying9 (hval 1 9 v1 rfl rfl) h1
  have w1 : a1.size ≤ 140737488351232 := by
    have z := sized_string hsz (j := 1) (t := 9) rfl rfl
    rw [Array.length_toList] at z
    exact z
  obtain ⟨a2, rfl, rfl, rfl, y2⟩ := open_string Try.underlying9 (hval 2 9 v2 rfl rfl) h2
  have w2 : a2.size ≤ 140737488351232 := by
    have z := sized_string hsz (j := 2) (t := 9) rfl rfl
    rw [Array.length_toList] at z
    exact z
  clear hA0 hval0 hsz0 hsz
  refine (Go.Proofs.YtkglpcajjieblaaR.is_tells (Go.Proofs.Ytkglpcajjieblaa.F.MacChecks_c W a0 a1 a2 w0 w1 w2)).mono fun e W' ⟨he, bel⟩ => ?_
  subst he
  exact ⟨_, rfl, _, _, _, [], _, [], hW', trodAll_mk1 (shut_bool Try.underlying4 _), (trodAll_cons_mk (shut_string Try.underlying9 y0) (trodAll_cons_mk (shut_string Try.underlying9 y1) (trodAll_cons_mk (shut_string Try.underlying9 y2) trodAll_mk0))), rfl, bel.frame _, fun h => by cases h⟩
theorem over : Rows.macChecksRow.holds Try.pinned (OpenSpec.ofChange Rows.macChecksSpec) :=
  OpenClaim.holds_of_wide 8 Try.f8 rfl rfl rfl rfl rfl rfl rfl ⟨rfl, rfl, rfl, rfl, rfl⟩ rfl rfl rfl rfl rfl (by kernel_rfl) Try.func8 (by kernel_rfl)
    (of_decide_eq_true (by kernel_rfl)) (by unfold Func.isWrapper; first | (rw [if_pos (by decide +kernel)]; kernel_rfl) | (rw [if_neg (by decide +kernel)]; exact ⟨rfl, rfl⟩))
    (fun os started H enc _ => lifted os started H enc)
end Go.Proofs.Ytkglpcajjieblaa.macChecks
namespace Go.Proofs.Ytkglpcajjieblaa
/-- The row, under a short name, for the claim. -/
theorem macChecks_holds : Rows.MacChecksSaid := macChecks.over
#print axioms macChecks_holds
end Go.Proofs.Ytkglpcajjieblaa
