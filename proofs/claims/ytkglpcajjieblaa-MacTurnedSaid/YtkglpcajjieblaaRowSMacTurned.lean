/- The row of the law MacTurned: for every input the law's call returns true, whatever memory; no condition. Out of the contract MacTurned_c. -/
import Derived.Test.YtkglpcajjieblaaSC
import Derived.Test.YtkglpcajjieblaaRows
import Derived.WalkKit
import Derived.ProofKit
import Derived.OpenShut
import Derived.ShutString
import Derived.ChangeOld
import Derived.Below
import Derived.SizedLaws
import Derived.Test.YtkglpcajjieblaaWSized
import Derived.Lib.SmallJoins

-- MacC
namespace Go.Proofs.Ytkglpcajjieblaa.F
open Go Go.RowKit Go.Proofs.YtkglpcajjieblaaW.PrintWords Go.Proofs.YtkglpcajjieblaaW.PrintLast Go.Proofs.YtkglpcajjieblaaW.PrintMore Go.Proofs.YtkglpcajjieblaaR
attribute [local go_sem] max2_int min2_int max_two min_two
set_option linter.unusedSimpArgs false
set_option linter.unusedVariables false
set_option maxRecDepth 100000
theorem xor_b {a b : Nat} (ha : a < 256) (hb : b < 256) : Go.bits .xor .u8 (a : Int) (b : Int) = ((a ^^^ b : Nat) : Int) := by
  have h : a ^^^ b < 256 := Nat.xor_lt_two_pow (n := 8) ha hb
  unfold Go.bits
  simp only [show IntKind.u8.bits = 8 from rfl]
  rw [BitVec.toNat_xor, BitVec.toNat_ofInt, BitVec.toNat_ofInt]
  rw [show ((a : Int) % ((2 ^ IntKind.u8.bits : Nat) : Int)).toNat = a from by show ((a : Int) % 256).toNat = a; omega, show ((b : Int) % ((2 ^ IntKind.u8.bits : Nat) : Int)).toNat = b from by show ((b : Int) % 256).toNat = b; omega]
  rw [IntKind.wrap_u8]; omega
theorem xor_zero (a b : Nat) : a ^^^ b = 0 ↔ a = b := by
  constructor
  · intro h
    have h1 : (a ^^^ b) ^^^ b = 0 ^^^ b := by rw [h]
    rw [Nat.xor_assoc, Nat.xor_self, Nat.xor_zero, Nat.zero_xor] at h1
    exact h1
  · rintro rfl
    exact Nat.xor_self _
theorem or_b {a b : Nat} (ha : a < 256) (hb : b < 256) : Go.bits .or .u8 (a : Int) (b : Int) = ((a ||| b : Nat) : Int) :=
  (bits_nat .u8 8 (Nat.le_refl _) (fun n h0 h3 => by rw [IntKind.wrap_u8]; omega) a b ha hb).2
theorem bt_at (s : ByteArray) (i : Nat) (h : i < s.size) (w' : World) : Sem.run Try.prog (Instr.index 9 (.string s) (.int .i64 (i : Int))) w' = .ok (.int .u8 ((s[i].toNat : Nat) : Int)) w' := by
  rw [run_index_string w' _ s .i64 _ (by rfl), dif_pos ⟨by omega, by omega⟩]; rfl
set_option maxHeartbeats 2000000 in
theorem check_c (w : World) (key message sl : ByteArray) (hk : key.size ≤ 100000000) (hm : message.size ≤ 100000000) :
    Calls Try.prog 19 #[.string key, .string message, .string sl] w (Tells w (Is (.bool (decide (sl = strOfNums (sealL (bytesOf key) (bytesOf message))))))) := by
  have h1 := fun w => seal_c w (bytesOf key) (bytesOf message) (bytesOf_bytes _) (bytesOf_bytes _) (by rw [bytesOf_length]; omega) (by rw [bytesOf_length]; omega)
  obtain ⟨S, hS⟩ : ∃ S, S = strOfNums (sealL (bytesOf key) (bytesOf message)) := ⟨_, rfl⟩
  have hs32 : S.size = 32 := by rw [hS, str_size, sealL_len]
  simp only [← hS, str_bytes] at h1
  rw [← hS]
  have H1 := Lib.hid h1
  have H32 := Lib.hid hs32
  obtain ⟨ns, hns⟩ : ∃ ns, ns = sl.size := ⟨_, rfl⟩
  have hns' := hns.symm
  have HNS := Lib.hid hns'
  clear h1 hS hk hm hns
  by_cases hl : ns = 32
  · subst hl
    go_enter Try.func19, Try.ntmps19
    go_wp2_with fail
    refine (H1.out w).mono ?_
    rintro e w1 ⟨_, rfl, rfl, hg1⟩
    go_wp2_with fail
    clear hs32 hns'
    go_loopw [8, 20] (fun v8 iv wq => ∃ (i d : Nat), v8 = .int .u8 (d : Int) ∧ iv = .int .i64 (i : Int) ∧ i ≤ 32 ∧ d < 256 ∧ (d = 0 ↔ ∀ j, j < i → S[j]? = sl[j]?) ∧ Grew w wq) (fun _ iv _ => 32 - (intOf iv).toNat)
    case atStart => exact ⟨0, 0, rfl, rfl, by omega, by omega, ⟨fun _ j hj => by omega, fun _ => rfl⟩, hg1⟩
    case round =>
      obtain ⟨i, d, rfl, rfl, hi, hd, hdi, hg⟩ := hrel
      by_cases hlt : i < 32
      · have d1 : decide ((i : Int) < 32) = true := decide_eq_true (by omega)
        have b1 : i < S.size := by rw [H32.out]; exact hlt
        have b2 : i < sl.size := by rw [HNS.out]; exact hlt
        have I1 := bt_at S i b1
        have I2 := bt_at sl i b2
        have g1 : S[i]? = some S[i] := ByteArray.getElem?_lt' S i b1
        have g2 : sl[i]? = some sl[i] := ByteArray.getElem?_lt' sl i b2
        have x1 := S[i].toNat_lt
        have x2 := sl[i].toNat_lt
        have hxy : S[i].toNat = sl[i].toNat ↔ S[i] = sl[i] := UInt8.toNat_inj
        obtain ⟨x, hx⟩ : ∃ x, x = S[i].toNat := ⟨_, rfl⟩
        obtain ⟨y, hy⟩ : ∃ y, y = sl[i].toNat := ⟨_, rfl⟩
        rw [← hx] at I1 hxy x1
        rw [← hy] at I2 hxy x2
        have hxl : x ^^^ y < 256 := Nat.xor_lt_two_pow (n := 8) x1 x2
        have f1 := xor_b x1 x2
        have f2 := or_b hd hxl
        obtain ⟨z, hz⟩ : ∃ z, z = x ^^^ y := ⟨_, rfl⟩
        rw [← hz] at f1 f2 hxl
        obtain ⟨d2, hd2⟩ : ∃ d2, d2 = d ||| z := ⟨_, rfl⟩
        rw [← hd2] at f2
        have hd2l : d2 < 256 := by rw [hd2]; exact Nat.or_lt_two_pow (n := 8) hd hxl
        have hz0 : d2 = 0 ↔ d = 0 ∧ x = y := by
          rw [hd2, Nat.or_eq_zero_iff, hz, xor_zero]
        have hnew : d2 = 0 ↔ ∀ j, j < i + 1 → S[j]? = sl[j]? := by
          rw [hz0, hdi, hxy]
          constructor
          · rintro ⟨h1, h2⟩ j hj
            by_cases e : j = i
            · subst e; rw [g1, g2, h2]
            · exact h1 j (by omega)
          · intro h
            refine ⟨fun j hj => h j (by omega), ?_⟩
            have := h i (by omega)
            rw [g1, g2] at this
            exact Option.some.inj this
        have HNew := Lib.hid hnew
        have HG := Lib.hid hg
        clear hnew hg hdi hz0 hd2 hz hxy hx hy g1 g2 b1 b2
        go_wp2_with fail
        apply region_grew [Is _, Is _, Is _, Is _, Is _, Is _, Is _, Is _] [([(8, none)], none), ([(7, none)], none), ([(9, none)], none), ([(24, some 1), (25, some 2)], none), ([(2, none)], none), ([(9, none)], none), ([(27, some 4), (28, some 5)], none), ([(26, some 3), (29, some 6)], none)] [(23, 0), (24, 1), (25, 2), (26, 3), (27, 4), (28, 5), (29, 6), (30, 7)] rfl (by kernel_rfl) (by kernel_rfl) (show Stable Grew _ from ⟨Is.stable _, Is.stable _, Is.stable _, Is.stable _, Is.stable _, Is.stable _, Is.stable _, Is.stable _, trivial⟩)
        · show OpsHold _ _ _ _ _ _ _ _ _
          refine ⟨fun a_ wx hR hD K hK => ?_, ?_⟩
          · have hG : Grew wr wx := (Grew.drew _).trans hR
            simp [Deps, Dep, at_, Is] at hD
            go_simp
            exact hK _ _ (Grew.refl _) rfl
          refine ⟨fun a_ wx hR hD K hK => ?_, ?_⟩
          · have hG : Grew wr wx := (Grew.drew _).trans hR
            simp [Deps, Dep, at_, Is] at hD
            go_simp
            exact hK _ _ (Grew.refl _) rfl
          refine ⟨fun a_ wx hR hD K hK => ?_, ?_⟩
          · have hG : Grew wr wx := (Grew.drew _).trans hR
            simp [Deps, Dep, at_, Is] at hD
            go_simp
            exact hK _ _ (Grew.refl _) rfl
          refine ⟨fun a_ wx hR hD K hK => ?_, ?_⟩
          · have hG : Grew wr wx := (Grew.drew _).trans hR
            simp [Deps, Dep, at_, Is] at hD
            obtain ⟨hd0, hd1⟩ := hD
            go_simp
            exact hK _ _ (Grew.refl _) rfl
          refine ⟨fun a_ wx hR hD K hK => ?_, ?_⟩
          · have hG : Grew wr wx := (Grew.drew _).trans hR
            simp [Deps, Dep, at_, Is] at hD
            go_simp
            exact hK _ _ (Grew.refl _) rfl
          refine ⟨fun a_ wx hR hD K hK => ?_, ?_⟩
          · have hG : Grew wr wx := (Grew.drew _).trans hR
            simp [Deps, Dep, at_, Is] at hD
            go_simp
            exact hK _ _ (Grew.refl _) rfl
          refine ⟨fun a_ wx hR hD K hK => ?_, ?_⟩
          · have hG : Grew wr wx := (Grew.drew _).trans hR
            simp [Deps, Dep, at_, Is] at hD
            obtain ⟨hd0, hd1⟩ := hD
            go_simp
            exact hK _ _ (Grew.refl _) rfl
          refine ⟨fun a_ wx hR hD K hK => ?_, ?_⟩
          · have hG : Grew wr wx := (Grew.drew _).trans hR
            simp [Deps, Dep, at_, Is] at hD
            obtain ⟨hd0, hd1⟩ := hD
            go_simp
            exact hK _ _ (Grew.refl _) rfl
          trivial
        · show EndHold _ _ _ _ _ _ _
          refine end_all (xs := [_, _, _, _, _, _, _, _]) ⟨rfl, rfl, rfl, rfl, rfl, rfl, rfl, rfl, trivial⟩ ?_
          rintro w5 hR1 -
          refine ⟨?_⟩
          have hG_w5 : Grew wr w5 := (Grew.drew _).trans hR1
          clear hR1
          simp only [Act.put, List.setIfInBounds_toArray, List.set_cons_succ, List.set_cons_zero, dropN, putEach]
          go_wp2_with fail
          go_roundw
          case rel => exact ⟨i + 1, d2, rfl, by go_num, by omega, hd2l, HNew.out, Grew.trans HG.out hG_w5⟩
          case measure => simp [intOf]; omega
      · have d1 : decide ((i : Int) < 32) = false := decide_eq_false (by omega)
        obtain rfl : i = 32 := by omega
        have hfin : (d = 0) ↔ sl = S := by
          rw [hdi]
          constructor
          · intro h
            apply ByteArray.ext
            apply Array.ext_getElem?
            intro j
            by_cases hj : j < 32
            · have := h j hj
              have j1 : j < S.size := by rw [H32.out]; exact hj
              have j2 : j < sl.size := by rw [HNS.out]; exact hj
              rw [ByteArray.getElem?_lt' S j j1, ByteArray.getElem?_lt' sl j j2] at this
              have e1 : sl.data[j]? = some sl[j] := by
                have : j < sl.data.size := by have := HNS.out; show j < sl.size; omega
                rw [Array.getElem?_eq_getElem this]; rfl
              have e2 : S.data[j]? = some S[j] := by
                have : j < S.data.size := by have := H32.out; show j < S.size; omega
                rw [Array.getElem?_eq_getElem this]; rfl
              rw [e1, e2]; exact this.symm
            · rw [Array.getElem?_eq_none (by have := HNS.out; show sl.size ≤ j; omega), Array.getElem?_eq_none (by have := H32.out; show S.size ≤ j; omega)]
          · rintro rfl j _; rfl
        obtain ⟨r, hr⟩ : ∃ r, r = decide (sl = S) := ⟨_, rfl⟩
        have hdr : ((d : Int) == 0) = r := by
          rw [hr, Bool.eq_iff_iff]
          simp only [beq_iff_eq, decide_eq_true_eq]
          rw [← hfin]; omega
        have hdr2 : decide ((d : Int) = 0) = r := by rw [← hdr]; rfl
        have hdr3 : decide (d = 0) = r := by rw [hr]; exact decide_eq_decide.2 hfin
        have HRr := Lib.hid hr
        clear hfin hdi hr
        cases r
        · have hd0 : ¬ d = 0 := of_decide_eq_false hdr3
          clear hdr hdr2 hdr3
          go_wp2_with fail
          go_ret
          refine ⟨_, rfl, ?_, hg⟩
          rw [← HRr.out]
          show Value.bool _ = Value.bool false
          simp; omega
        · have hd0 : d = 0 := of_decide_eq_true hdr3
          subst hd0
          clear hdr hdr2 hdr3
          go_wp2_with fail
          go_ret
          refine ⟨_, rfl, ?_, hg⟩
          rw [← HRr.out]
          rfl
  · have hne : ¬ sl = S := fun e => hl (by rw [← hns', e, hs32])
    have hd : decide (sl = S) = false := decide_eq_false hne
    rw [hd]
    have n1 : ¬ (32 : Int) = (ns : Int) := by omega
    have n2 : ¬ 32 = ns := by omega
    clear hne hd
    go_enter Try.func19, Try.ntmps19
    go_wp2_with fail
    refine (H1.out w).mono ?_
    rintro e w1 ⟨_, rfl, rfl, hg1⟩
    go_wp2_with fail
    go_ret
    exact ⟨_, rfl, rfl, hg1⟩
end Go.Proofs.Ytkglpcajjieblaa.F

-- MacTurned
namespace Go.Proofs.Ytkglpcajjieblaa.F
open Go Go.RowKit Go.Proofs.YtkglpcajjieblaaW.PrintWords Go.Proofs.YtkglpcajjieblaaW.PrintLast Go.Proofs.YtkglpcajjieblaaW.PrintMore Go.Proofs.YtkglpcajjieblaaR
attribute [local go_sem] max2_int min2_int max_two min_two
set_option linter.unusedSimpArgs false
set_option linter.unusedVariables false
set_option maxRecDepth 100000
theorem xor_by (a b : Nat) : a ^^^ b = a ↔ b = 0 := by
  constructor
  · intro h
    have h1 : a ^^^ (a ^^^ b) = a ^^^ a := by rw [h]
    rw [← Nat.xor_assoc, Nat.xor_self, Nat.zero_xor] at h1
    exact h1
  · rintro rfl
    exact Nat.xor_zero _
theorem str_inj {a b : List Int} (ha : bytes8' a) (hb : bytes8' b) (h : strOfNums a = strOfNums b) : a = b := by
  rw [← bytesOf_str' ha, ← bytesOf_str' hb, h]
theorem turn_one (l : List Int) (j : Nat) (z : Int) (h : j < l.length) : l.take j ++ [z] ++ l.drop (j + 1) = l.set j z := by
  rw [List.set_eq_take_append_cons_drop, if_pos h]
  simp
set_option maxHeartbeats 4000000 in
theorem turned_law (w : World) (key message : ByteArray) (pl : Int) (by_ : Int) (hk : key.size ≤ 140737488351232) (hm : message.size ≤ 140737488351232) (hby : 0 ≤ by_ ∧ by_ < 256) (hat : -9223372036854775808 ≤ pl ∧ pl < 9223372036854775808) :
    Calls Try.prog 9 #[.agg #[.string key, .string message], .int .i64 pl, .int .u8 by_] w (Tells w (Is (.bool true))) := by
  obtain ⟨b, hb, hsm⟩ := small_c [key, message] (by intro s hs; simp at hs; rcases hs with rfl | rfl <;> assumption)
  have hbl : Blk (w.alloc (.cells #[.string key, .string message] 38)) w.heap.size 38 [.string key, .string message] := Blk.new w _ _
  have HC0 := Lib.hid (fun w' (h : Grew (w.alloc (.cells #[.string key, .string message] 38)) w') => show w'.cell? ⟨w.heap.size, 0, none⟩ = some (.string key) from by rw [(hbl.grew h).at_]; rfl)
  have HC1 := Lib.hid (fun w' (h : Grew (w.alloc (.cells #[.string key, .string message] 38)) w') => show w'.cell? ⟨w.heap.size, 1, none⟩ = some (.string message) from by rw [(hbl.grew h).at_]; rfl)
  have HSM := Lib.hid hsm
  cases b
  · clear hk hm hb hsm hbl hby hat
    go_enter Try.func9, Try.ntmps9
    go_wp2_with fail
    obtain ⟨W0, hW0⟩ : ∃ W0, W0 = w.alloc (.cells #[.string key, .string message] 38) := ⟨_, rfl⟩
    have hg0 : Grew w W0 := by rw [hW0]; exact Grew.alloc _ _
    rw [← hW0] at HC0 HC1 ⊢
    clear hW0
    apply region_grew [Is _, Is _, Is _, Is _, Is _] [([(3, none)], none), ([(11, some 0)], none), ([(3, none)], none), ([(13, some 2)], none), ([(12, some 1)], none)] [(7, 4), (11, 0), (12, 1), (13, 2), (14, 3)] rfl (by kernel_rfl) (by kernel_rfl) (show Stable Grew _ from ⟨Is.stable _, Is.stable _, Is.stable _, Is.stable _, Is.stable _, trivial⟩)
    · show OpsHold _ _ _ _ _ _ _ _ _
      refine ⟨fun a_ wx hR hD K hK => ?_, ?_⟩
      · have hG : Grew W0 wx := (Grew.drew _).trans hR
        simp [Deps, Dep, at_, Is] at hD
        go_simp
        exact hK _ _ (Grew.refl _) rfl
      refine ⟨fun a_ wx hR hD K hK => ?_, ?_⟩
      · have hG : Grew W0 wx := (Grew.drew _).trans hR
        simp [Deps, Dep, at_, Is] at hD
        have e_ := HC0.out wx hG
        go_simp
        exact hK _ _ (Grew.refl _) rfl
      refine ⟨fun a_ wx hR hD K hK => ?_, ?_⟩
      · have hG : Grew W0 wx := (Grew.drew _).trans hR
        simp [Deps, Dep, at_, Is] at hD
        go_simp
        exact hK _ _ (Grew.refl _) rfl
      refine ⟨fun a_ wx hR hD K hK => ?_, ?_⟩
      · have hG : Grew W0 wx := (Grew.drew _).trans hR
        simp [Deps, Dep, at_, Is] at hD
        have e_ := HC1.out wx hG
        go_simp
        exact hK _ _ (Grew.refl _) rfl
      refine ⟨fun a_ wx hR hD K hK => ?_, ?_⟩
      · have hG : Grew W0 wx := (Grew.drew _).trans hR
        simp [Deps, Dep, at_, Is] at hD
        go_simp
        exact hK _ _ (Grew.refl _) rfl
      trivial
    · show EndHold _ _ _ _ _ _ _
      refine end_all (xs := [_, _, _, _, _]) ⟨rfl, rfl, rfl, rfl, rfl, trivial⟩ ?_
      rintro w1 hR1 -
      refine ⟨?_⟩
      have hG_w1 : Grew W0 w1 := (Grew.drew _).trans hR1
      clear hR1
      simp only [Act.put, List.setIfInBounds_toArray, List.set_cons_succ, List.set_cons_zero, dropN, putEach]
      go_wp2_with fail
      refine (HSM.out _ _ 2 2 (two_C w1 key message) rfl (Nat.le_refl _)).mono ?_
      rintro e w2 ⟨_, rfl, rfl, hg2⟩
      go_wp2_with fail
      refine (lives_c w2).mono ?_
      rintro e w3 ⟨_, rfl, rfl, hg3⟩
      go_wp2_with fail
      go_ret
      exact ⟨_, rfl, rfl, Grew.trans (Grew.trans (Grew.trans (Grew.trans hg0 hG_w1) (Grew.alloc w1 _)) hg2) hg3⟩
  · have hsum := (hb rfl).1
    simp only [List.map_cons, List.map_nil, List.sum_cons, List.sum_nil] at hsum
    have h1 := fun w => seal_c w (bytesOf key) (bytesOf message) (bytesOf_bytes _) (bytesOf_bytes _) (by rw [bytesOf_length]; omega) (by rw [bytesOf_length]; omega)
    have hck := fun w s => check_c w key message s (by omega) (by omega)
    obtain ⟨l, hl⟩ : ∃ l, l = sealL (bytesOf key) (bytesOf message) := ⟨_, rfl⟩
    have hll : l.length = 32 := by rw [hl]; exact sealL_len _ _
    have hlb : bytes8' l := by rw [hl]; exact sealL_bytes _ _
    simp only [← hl, str_bytes] at h1 hck
    obtain ⟨S, hS⟩ : ∃ S, S = strOfNums l := ⟨_, rfl⟩
    simp only [← hS] at h1 hck
    have hs32 : S.size = 32 := by rw [hS, str_size, hll]
    obtain ⟨y, rfl⟩ := Int.eq_ofNat_of_zero_le hby.1
    have hyl : y < 256 := by omega
    -- the place
    obtain ⟨r, hr⟩ : ∃ r, r = pl.tmod 32 := ⟨_, rfl⟩
    have hrb : -32 < r ∧ r < 32 := by rw [hr]; exact ⟨Int.lt_tmod_of_pos pl (by omega), Int.tmod_lt_of_pos pl (by omega)⟩
    obtain ⟨j, hj, hjr⟩ : ∃ j : Nat, j < 32 ∧ ((0 ≤ r ∧ r = (j : Int)) ∨ (r < 0 ∧ r + 32 = (j : Int))) := by
      by_cases h : 0 ≤ r
      · exact ⟨r.toNat, by omega, .inl ⟨h, by omega⟩⟩
      · exact ⟨(r + 32).toNat, by omega, .inr ⟨by omega, by omega⟩⟩
    obtain ⟨x, hx⟩ : ∃ x : Nat, (x : Int) = l.getD j 0 ∧ x < 256 := by
      have h0 := hlb (l.getD j 0) (by rw [List.getD_eq_getElem?_getD, List.getElem?_eq_getElem (by omega : j < l.length)]; exact List.getElem_mem _)
      exact ⟨(l.getD j 0).toNat, by omega, by omega⟩
    obtain ⟨hxl, hx256⟩ := hx
    obtain ⟨z, hz⟩ : ∃ z, z = x ^^^ y := ⟨_, rfl⟩
    have hzl : z < 256 := by rw [hz]; exact Nat.xor_lt_two_pow (n := 8) hx256 hyl
    have f1 : Go.bits .xor .u8 (x : Int) (y : Int) = (z : Int) := by rw [xor_b hx256 hyl, hz]
    have hzy : z = x ↔ y = 0 := by rw [hz]; exact xor_by x y
    -- the texts
    obtain ⟨P, hP⟩ : ∃ P, P = strOfNums (l.take j) := ⟨_, rfl⟩
    obtain ⟨Q, hQ⟩ : ∃ Q, Q = strOfNums [(z : Int)] := ⟨_, rfl⟩
    obtain ⟨T, hT⟩ : ∃ T, T = strOfNums (l.drop (j + 1)) := ⟨_, rfl⟩
    obtain ⟨PQ, hPQ⟩ : ∃ PQ, PQ = P ++ Q := ⟨_, rfl⟩
    obtain ⟨O, hO⟩ : ∃ O, O = PQ ++ T := ⟨_, rfl⟩
    obtain ⟨Y, hY⟩ : ∃ Y, Y = strOfNums [(y : Int)] := ⟨_, rfl⟩
    obtain ⟨L, hL⟩ : ∃ L, L = S ++ Y := ⟨_, rfl⟩
    have hOl : O = strOfNums (l.set j z) := by rw [hO, hPQ, hP, hQ, hT, str_append, str_append, turn_one l j z (by omega)]
    have hPs : P.size = j := by rw [hP, str_size, List.length_take]; omega
    have hQs : Q.size = 1 := by rw [hQ, str_size]; rfl
    have hTs : T.size = 31 - j := by rw [hT, str_size, List.length_drop]; omega
    have hYs : Y.size = 1 := by rw [hY, str_size]; rfl
    have hPQs : PQ.size = j + 1 := by rw [hPQ, ByteArray.size_append, hPs, hQs]
    have hLs : L.size = 33 := by rw [hL, ByteArray.size_append, hs32, hYs]
    have z1 : ¬ (9223372036854775807 < P.size + Q.size) := by omega
    have z2 : ¬ (9223372036854775807 < PQ.size + T.size) := by omega
    have z3 : ¬ (9223372036854775807 < S.size + Y.size) := by omega
    have hset : O = S ↔ y = 0 := by
      rw [hOl, hS, ← hzy]
      constructor
      · intro h
        have h2 := str_inj (fun v hv => by
          rcases List.mem_or_eq_of_mem_set hv with h | h
          · exact hlb v h
          · omega) hlb h
        have h3 : (l.set j (z : Int)).getD j 0 = l.getD j 0 := by rw [h2]
        rw [List.getD_eq_getElem?_getD, List.getElem?_set_self (by omega)] at h3
        simp only [Option.getD_some] at h3
        omega
      · rintro h
        rw [h, hxl]
        congr 1
        apply List.ext_getElem?
        intro i
        rw [List.getElem?_set]
        by_cases e : j = i
        · subst e
          rw [if_pos rfl, if_pos (by omega), List.getElem?_eq_getElem (by omega), List.getD_eq_getElem?_getD, List.getElem?_eq_getElem (by omega)]; rfl
        · rw [if_neg e]
    have hPne : ¬ P = S := fun e => by rw [e, hs32] at hPs; omega
    have hLne : ¬ L = S := fun e => by rw [e, hs32] at hLs; omega
    have c1 := fun w => hck w O
    have c2 := fun w => hck w P
    have c3 := fun w => hck w L
    rw [decide_eq_false hPne] at c2
    rw [decide_eq_false hLne] at c3
    obtain ⟨u, hu⟩ : ∃ u, u = decide (O = S) := ⟨_, rfl⟩
    rw [← hu] at c1
    have hu2 : decide (y = 0) = u := by rw [hu]; exact (decide_eq_decide.2 hset).symm
    have hu3 : decide ((y : Int) = 0) = u := by rw [← hu2]; exact decide_eq_decide.2 (by omega)
    have HCK1 := Lib.hid c1
    have HCK2 := Lib.hid c2
    have HCK3 := Lib.hid c3
    have H1 := Lib.hid h1
    have hJ1 : IntKind.i64.wrap ((j : Int) + 1) = ((j + 1 : Nat) : Int) := by rw [IntWalk.i64_in _ (by omega)]; omega
    have HS1 := Lib.hid (show ∀ w', Sem.run Try.prog (Instr.slice 9 (.string S) none (some (.int .i64 (j : Int))) none) w' = .ok (.string P) w' from fun w' => by
      rw [run_slice_string_to_if w' _ S .i64 _ (by rfl), if_pos ⟨by omega, by omega⟩, hS, str_extract, Int.toNat_natCast, List.drop_zero, Nat.sub_zero, hP])
    have HS2 := Lib.hid (show ∀ w', Sem.run Try.prog (Instr.slice 9 (.string S) (some (.int .i64 ((j + 1 : Nat) : Int))) none none) w' = .ok (.string T) w' from fun w' => by
      rw [run_slice_string_from_if w' _ S .i64 _ (by rfl), if_pos ⟨by omega, by omega⟩, hS, str_extract, Int.toNat_natCast, ← hS, hs32, hT]
      rw [List.take_of_length_le (by rw [List.length_drop]; omega)])
    have HI := Lib.hid (show ∀ w', Sem.run Try.prog (Instr.index 9 (.string S) (.int .i64 (j : Int))) w' = .ok (.int .u8 (x : Int)) w' from fun w' => by
      have h := bt_at S j (by omega) w'
      have h2 := str_at l hlb j (by rw [← hS]; omega)
      have h3 : (byteN l j : Int) = (x : Int) := by unfold byteN; omega
      rw [h]
      congr 2
      rw [← h3, ← h2]
      subst hS
      rfl)
    obtain ⟨j1, hj1⟩ : ∃ j1, j1 = j + 1 := ⟨_, rfl⟩
    rw [← hj1] at hJ1 HS2
    have HQC := Lib.hid (show ∀ w' A' c', Kd.C (Kd.int .u8) w' A' 1 [(z : Int)] → (convert 36 9 (.slice A' 1 c')).run Try.prog w' = .ok (.string Q) w' from fun w' A' c' h => by
      rw [hQ]; exact Kd.C_string (P := Try.prog) Try.underlying36 Try.underlying5 Try.underlying9 h)
    have HYC := Lib.hid (show ∀ W : World, (convert 36 9 (.slice (some ⟨W.heap.size, 0, none⟩) 1 1)).run Try.prog (W.alloc (.cells #[.int .u8 (y : Int)] 5)) = .ok (.string Y) (W.alloc (.cells #[.int .u8 (y : Int)] 5)) from fun W => by
      rw [hY]; exact Kd.C_string (P := Try.prog) Try.underlying36 Try.underlying5 Try.underlying9 ((Blk.new W 5 (nums .u8 [(y : Int)])).C (by simp)))
    have a1 : P ++ Q = PQ := hPQ.symm
    have a2 : PQ ++ T = O := hO.symm
    have a3 : S ++ Y = L := hL.symm
    have hrr := hr.symm
    have hcas : (decide (r < 0) = false ∧ r = (j : Int)) ∨ (decide (r < 0) = true ∧ IntKind.i64.wrap (r + 32) = (j : Int)) := by
      rcases hjr with ⟨h1, h2⟩ | ⟨h1, h2⟩
      · exact .inl ⟨decide_eq_false (by omega), h2⟩
      · exact .inr ⟨decide_eq_true h1, by rw [IntWalk.i64_in _ (by omega)]; exact h2⟩
    have HS32 := Lib.hid hs32
    have HRR := Lib.hid hrr
    clear hk hm hb hsm hbl hby hat hsum h1 hck hl hll hlb hS hyl hrb hjr hr hj hxl hx256 hz hzl hzy hP hQ hT hPQ hO hY hL hOl hPs hQs hTs hYs hPQs hLs hset hPne hLne c1 c2 c3 hu hj1 hs32 hrr
    go_enter Try.func9, Try.ntmps9
    go_wp2_with fail
    obtain ⟨W0, hW0⟩ : ∃ W0, W0 = w.alloc (.cells #[.string key, .string message] 38) := ⟨_, rfl⟩
    have hg0 : Grew w W0 := by rw [hW0]; exact Grew.alloc _ _
    rw [← hW0] at HC0 HC1 ⊢
    clear hW0
    apply region_grew [Is _, Is _, Is _, Is _, Is _] [([(3, none)], none), ([(11, some 0)], none), ([(3, none)], none), ([(13, some 2)], none), ([(12, some 1)], none)] [(7, 4), (11, 0), (12, 1), (13, 2), (14, 3)] rfl (by kernel_rfl) (by kernel_rfl) (show Stable Grew _ from ⟨Is.stable _, Is.stable _, Is.stable _, Is.stable _, Is.stable _, trivial⟩)
    · show OpsHold _ _ _ _ _ _ _ _ _
      refine ⟨fun a_ wx hR hD K hK => ?_, ?_⟩
      · have hG : Grew W0 wx := (Grew.drew _).trans hR
        simp [Deps, Dep, at_, Is] at hD
        go_simp
        exact hK _ _ (Grew.refl _) rfl
      refine ⟨fun a_ wx hR hD K hK => ?_, ?_⟩
      · have hG : Grew W0 wx := (Grew.drew _).trans hR
        simp [Deps, Dep, at_, Is] at hD
        have e_ := HC0.out wx hG
        go_simp
        exact hK _ _ (Grew.refl _) rfl
      refine ⟨fun a_ wx hR hD K hK => ?_, ?_⟩
      · have hG : Grew W0 wx := (Grew.drew _).trans hR
        simp [Deps, Dep, at_, Is] at hD
        go_simp
        exact hK _ _ (Grew.refl _) rfl
      refine ⟨fun a_ wx hR hD K hK => ?_, ?_⟩
      · have hG : Grew W0 wx := (Grew.drew _).trans hR
        simp [Deps, Dep, at_, Is] at hD
        have e_ := HC1.out wx hG
        go_simp
        exact hK _ _ (Grew.refl _) rfl
      refine ⟨fun a_ wx hR hD K hK => ?_, ?_⟩
      · have hG : Grew W0 wx := (Grew.drew _).trans hR
        simp [Deps, Dep, at_, Is] at hD
        go_simp
        exact hK _ _ (Grew.refl _) rfl
      trivial
    · show EndHold _ _ _ _ _ _ _
      refine end_all (xs := [_, _, _, _, _]) ⟨rfl, rfl, rfl, rfl, rfl, trivial⟩ ?_
      rintro w1 hR1 -
      refine ⟨?_⟩
      have hG_w1 : Grew W0 w1 := (Grew.drew _).trans hR1
      clear hR1
      simp only [Act.put, List.setIfInBounds_toArray, List.set_cons_succ, List.set_cons_zero, dropN, putEach]
      go_wp2_with fail
      refine (HSM.out _ _ 2 2 (two_C w1 key message) rfl (Nat.le_refl _)).mono ?_
      rintro e w2 ⟨_, rfl, rfl, hg2⟩
      go_wp2_with fail
      refine (H1.out w2).mono ?_
      rintro e w3 ⟨_, rfl, rfl, hg3⟩
      have hs32 := HS32.out
      have hrr := HRR.out
      rcases hcas with ⟨d1, rfl⟩ | ⟨d1, e1⟩
      all_goals
        go_wp2_with fail
        clear hs32 hrr
        have hs1 := HS1.out
        have hs2 := HS2.out
        have hi := HI.out
        have hg3' : Grew w w3 := Grew.trans (Grew.trans (Grew.trans (Grew.trans hg0 hG_w1) (Grew.alloc w1 _)) hg2) hg3
        apply region_grew [Is _, Is _, Is _, Is _, Is _, Is _, Is _, Is _, RowV 1 [(z : Int)], Is _, Is _, Is _, Is _, Is _, Is _] [([(9, none)], none), ([(1, none)], none), ([(33, some 0), (34, some 1)], none), ([(9, none)], none), ([(1, none)], none), ([(36, some 3), (37, some 4)], none), ([(2, none)], none), ([(38, some 5), (39, some 6)], none), ([(40, some 7)], none), ([(41, some 8)], none), ([(35, some 2), (42, some 9)], none), ([(9, none)], none), ([(1, none)], none), ([(45, some 12)], none), ([(44, some 11), (46, some 13)], none)] [(41, 8), (33, 0), (34, 1), (35, 2), (36, 3), (37, 4), (38, 5), (39, 6), (40, 7), (42, 9), (43, 10), (44, 11), (45, 12), (46, 13), (47, 14)] rfl (by kernel_rfl) (by kernel_rfl) (show Stable Grew _ from ⟨Is.stable _, Is.stable _, Is.stable _, Is.stable _, Is.stable _, Is.stable _, Is.stable _, Is.stable _, RowV.stable _ _, Is.stable _, Is.stable _, Is.stable _, Is.stable _, Is.stable _, Is.stable _, trivial⟩)
        · show OpsHold _ _ _ _ _ _ _ _ _
          refine ⟨fun a_ wx hR hD K hK => ?_, ?_⟩
          · have hG : Grew w3 wx := (Grew.drew _).trans hR
            simp [Deps, Dep, at_, Is] at hD
            go_simp
            exact hK _ _ (Grew.refl _) rfl
          refine ⟨fun a_ wx hR hD K hK => ?_, ?_⟩
          · have hG : Grew w3 wx := (Grew.drew _).trans hR
            simp [Deps, Dep, at_, Is] at hD
            go_simp
            exact hK _ _ (Grew.refl _) rfl
          refine ⟨fun a_ wx hR hD K hK => ?_, ?_⟩
          · have hG : Grew w3 wx := (Grew.drew _).trans hR
            simp [Deps, Dep, at_, Is] at hD
            obtain ⟨hd0, hd1⟩ := hD
            go_simp
            exact hK _ _ (Grew.refl _) rfl
          refine ⟨fun a_ wx hR hD K hK => ?_, ?_⟩
          · have hG : Grew w3 wx := (Grew.drew _).trans hR
            simp [Deps, Dep, at_, Is] at hD
            go_simp
            exact hK _ _ (Grew.refl _) rfl
          refine ⟨fun a_ wx hR hD K hK => ?_, ?_⟩
          · have hG : Grew w3 wx := (Grew.drew _).trans hR
            simp [Deps, Dep, at_, Is] at hD
            go_simp
            exact hK _ _ (Grew.refl _) rfl
          refine ⟨fun a_ wx hR hD K hK => ?_, ?_⟩
          · have hG : Grew w3 wx := (Grew.drew _).trans hR
            simp [Deps, Dep, at_, Is] at hD
            obtain ⟨hd0, hd1⟩ := hD
            go_simp
            exact hK _ _ (Grew.refl _) rfl
          refine ⟨fun a_ wx hR hD K hK => ?_, ?_⟩
          · have hG : Grew w3 wx := (Grew.drew _).trans hR
            simp [Deps, Dep, at_, Is] at hD
            go_simp
            exact hK _ _ (Grew.refl _) rfl
          refine ⟨fun a_ wx hR hD K hK => ?_, ?_⟩
          · have hG : Grew w3 wx := (Grew.drew _).trans hR
            simp [Deps, Dep, at_, Is] at hD
            obtain ⟨hd0, hd1⟩ := hD
            go_simp
            exact hK _ _ (Grew.refl _) rfl
          refine ⟨fun a_ wx hR hD K hK => ?_, ?_⟩
          · have hG : Grew w3 wx := (Grew.drew _).trans hR
            simp [Deps, Dep, at_, Is] at hD
            go_simp
            exact hK _ _ (Grew.alloc _ _) ⟨_, _, rfl, (Blk.new wx 5 (nums .u8 [(z : Int)])).C (by simp)⟩
          refine ⟨fun a_ wx hR hD K hK => ?_, ?_⟩
          · have hG : Grew w3 wx := (Grew.drew _).trans hR
            simp [Deps, Dep, at_, Is] at hD
            obtain ⟨A', c', hv', hC'⟩ := hD
            have hcv := HQC.out _ _ c' hC'
            go_simp
            exact hK _ _ (Grew.refl _) rfl
          refine ⟨fun a_ wx hR hD K hK => ?_, ?_⟩
          · have hG : Grew w3 wx := (Grew.drew _).trans hR
            simp [Deps, Dep, at_, Is] at hD
            obtain ⟨hd0, hd1⟩ := hD
            go_simp
            exact hK _ _ (Grew.refl _) rfl
          refine ⟨fun a_ wx hR hD K hK => ?_, ?_⟩
          · have hG : Grew w3 wx := (Grew.drew _).trans hR
            simp [Deps, Dep, at_, Is] at hD
            go_simp
            exact hK _ _ (Grew.refl _) rfl
          refine ⟨fun a_ wx hR hD K hK => ?_, ?_⟩
          · have hG : Grew w3 wx := (Grew.drew _).trans hR
            simp [Deps, Dep, at_, Is] at hD
            go_simp
            exact hK _ _ (Grew.refl _) rfl
          refine ⟨fun a_ wx hR hD K hK => ?_, ?_⟩
          · have hG : Grew w3 wx := (Grew.drew _).trans hR
            simp [Deps, Dep, at_, Is] at hD
            go_simp
            exact hK _ _ (Grew.refl _) rfl
          refine ⟨fun a_ wx hR hD K hK => ?_, ?_⟩
          · have hG : Grew w3 wx := (Grew.drew _).trans hR
            simp [Deps, Dep, at_, Is] at hD
            obtain ⟨hd0, hd1⟩ := hD
            go_simp
            exact hK _ _ (Grew.refl _) rfl
          trivial
        · show EndHold _ _ _ _ _ _ _
          intro v41
          refine end_all (xs := [_, _, _, _, _, _, _, _, _, _, _, _, _, _]) ⟨rfl, rfl, rfl, rfl, rfl, rfl, rfl, rfl, rfl, rfl, rfl, rfl, rfl, rfl, trivial⟩ ?_
          rintro w4 hR1 ⟨-, hRow⟩
          refine ⟨?_⟩
          have hG_w4 : Grew w3 w4 := (Grew.drew _).trans hR1
          clear hR1
          simp only [Act.put, List.setIfInBounds_toArray, List.set_cons_succ, List.set_cons_zero, dropN, putEach]
          go_wp2_with fail
          refine (HCK1.out w4).mono ?_
          rintro e w5 ⟨_, rfl, rfl, hg5⟩
          have hyu : (y = 0 ∧ u = true) ∨ (¬ y = 0 ∧ ¬ (y : Int) = 0 ∧ u = false) := by
            by_cases h : y = 0
            · exact .inl ⟨h, by rw [← hu2]; exact decide_eq_true h⟩
            · exact .inr ⟨h, by omega, by rw [← hu2]; exact decide_eq_false h⟩
          clear hu2 hu3 f1 hi hs1 hs2
          have hs1 := HS1.out
          rcases hyu with ⟨rfl, rfl⟩ | ⟨y1, y2, rfl⟩
          · go_wp2_with fail
            refine (HCK2.out w5).mono ?_
            rintro e w6 ⟨_, rfl, rfl, hg6⟩
            have hyc := HYC.out w6
            rw [show ((0 : Nat) : Int) = 0 from rfl] at hyc
            go_wp2_with fail
            refine (HCK3.out _).mono ?_
            rintro e w7 ⟨_, rfl, rfl, hg7⟩
            go_wp2_with fail
            refine (lives_c w7).mono ?_
            rintro e w8 ⟨_, rfl, rfl, hg8⟩
            go_wp2_with fail
            go_ret
            exact ⟨_, rfl, rfl, Grew.trans (Grew.trans (Grew.trans (Grew.trans (Grew.trans (Grew.trans hg3' hG_w4) hg5) hg6) (Grew.alloc w6 _)) hg7) hg8⟩
          · go_wp2_with fail
            refine (HCK2.out w5).mono ?_
            rintro e w6 ⟨_, rfl, rfl, hg6⟩
            have hyc := HYC.out w6
            go_wp2_with fail
            refine (HCK3.out _).mono ?_
            rintro e w7 ⟨_, rfl, rfl, hg7⟩
            go_wp2_with fail
            refine (lives_c w7).mono ?_
            rintro e w8 ⟨_, rfl, rfl, hg8⟩
            go_wp2_with fail
            go_ret
            refine ⟨_, rfl, ?_, Grew.trans (Grew.trans (Grew.trans (Grew.trans (Grew.trans (Grew.trans hg3' hG_w4) hg5) hg6) (Grew.alloc w6 _)) hg7) hg8⟩
            have hf : ((y : Int) == 0) = false := by rw [beq_eq_false_iff_ne]; exact y2
            show Value.bool (!((y : Int) == 0)) = Value.bool true
            rw [hf]
            rfl
theorem MacTurned_c (w : World) (key message : ByteArray) (pl by_ : Int) (hk : key.size ≤ 140737488351232) (hm : message.size ≤ 140737488351232) (h1 : (Lit.int .i64 pl).wf = true) (h2 : (Lit.int .u8 by_).wf = true) :
    Calls Try.prog 9 #[.agg #[.string key, .string message], .int .i64 pl, .int .u8 by_] w (Tells w (Is (.bool true))) := by
  simp [Lit.wf, IntKind.min, IntKind.max, IntKind.bits, IntKind.signed] at h1 h2
  exact turned_law w key message pl by_ hk hm (by omega) (by omega)
end Go.Proofs.Ytkglpcajjieblaa.F

-- RowMacTurned
namespace Go.Proofs.Ytkglpcajjieblaa.macTurned
open Go.ChangeShapes Go.WideShapes Go.ChangeAt Go.RowKit
open Go.ChangeMaps (open_string shut_string)
set_option linter.unusedVariables false
set_option linter.unusedSimpArgs false
theorem own : ownKnob Try.prog.godebug = none := by kernel_rfl
theorem laidOut : laidOutB Try.prog = true := by kernel_rfl
set_option maxRecDepth 100000 in
theorem lifted (os : Os) (started : os.Started) (H : Type) (enc : TypeId × Value → H) :
    ReturnsInHanded {} Try.checked os 9 .any (Rows.macTurnedSpec.pre6 enc Try.prog Try.f9 Rows.macTurnedRow.domain false) (Rows.macTurnedSpec.post enc Try.prog Try.f9 false true false false) := by
  refine returnsInHanded_of_change_sized (C := Try.checked) own started (by kernel_rfl) Try.func9
    (ChangeSpec.witness6 (enc := enc) (C := Try.checked) false ⟨#[], #[.agg #[.string ByteArray.empty, .string ByteArray.empty], .int .i64 0, .int .u8 0], []⟩ 8 (by kernel_rfl) (by kernel_rfl) (by kernel_rfl) (by kernel_rfl)) ?_
  intro W base args ds gs before hval0 hW hcnd hsz0 _
  have hsz : (DataW.weightsEach Try.prog (Try.f9.params.toList ++ Rows.macTurnedSpec.plain.varTypes Try.prog) (ds ++ gs)).all (· ≤ reachBytes) = true := hsz0
  have hval : ∀ (j : Nat) t v, Try.f9.params[j]? = some t → args[j]? = some v → Value.okWide Try.prog W .any base t v := hval0
  have hW' := hW
  obtain ⟨p, q, hA0, hV, rfl, hfz, hnd⟩ := hW
  have hA : DataW.TrodAll enc Try.prog W 0 (fun _ => true) true Try.f9.params.toList args.toList ds p := hA0
  rw [Try.params9] at hA hval hsz
  obtain ⟨v0, vs0, d0, ds0, p0, q0, hargs, rfl, rfl, h0, r0⟩ := trodAll_cons hA
  obtain ⟨v1, vs1, d1, ds1, p1, q1, rfl, rfl, rfl, h1, r1⟩ := trodAll_cons r0
  obtain ⟨v2, vs2, d2, ds2, p2, q2, rfl, rfl, rfl, h2, r2⟩ := trodAll_cons r1
  obtain ⟨rfl, rfl, rfl⟩ := trodAll_nil r2
  obtain rfl : args = #[v0, v1, v2] := by cases args; simp_all
  obtain ⟨rfl, rfl⟩ := trodVars_none hV
  obtain ⟨cs0, rfl, hcs0⟩ := Go.Proofs.YtkglpcajjieblaaO.okWide_array Try.underlying38 (hval 0 38 v0 rfl rfl)
  have k0 := h0
  have lt0 : ∀ x ∈ p0, x.block < W.heap.size := by obtain ⟨m, hm⟩ := k0; exact DataW.trod_lt m _ _ _ hm
  obtain ⟨x0, hx0, ok0⟩ := Go.Proofs.YtkglpcajjieblaaO.opensW_arg (d := (Go.Proofs.YtkglpcajjieblaaW.PrintWords.Kd.arr 2 Go.Proofs.YtkglpcajjieblaaW.PrintWords.Kd.string (by decide))) (Go.Proofs.YtkglpcajjieblaaO.opensW_array (by decide) Try.underlying38 (Go.Proofs.YtkglpcajjieblaaO.opensW_string Try.underlying9) (by kernel_rfl) (by kernel_rfl)) hsz (j := 0) (t := 38) rfl rfl h0
  obtain ⟨x0_0, x0_1, c0_0, c0_1, rfl, rfl, K0_0, K0_1⟩ := Go.Proofs.YtkglpcajjieblaaO.arr2 rfl hx0
  obtain rfl := (List.cons.inj K0_0).1
  obtain rfl := (List.cons.inj K0_1).1
  obtain ⟨a1, rfl, rfl, rfl, w1⟩ := open_int Try.underlying3 (hval 1 3 v1 rfl rfl) h1
  obtain ⟨a2, rfl, rfl, rfl, w2⟩ := open_int Try.underlying5 (hval 2 5 v2 rfl rfl) h2
  clear hA0 hval0 hsz0 hsz
  refine (Go.Proofs.YtkglpcajjieblaaR.is_tells (Go.Proofs.Ytkglpcajjieblaa.F.MacTurned_c W x0_0 x0_1 a1 a2 (ok0 _ (by simp)) (ok0 _ (by simp)) w1 w2)).mono fun e W' ⟨he, bel⟩ => ?_
  subst he
  exact ⟨_, rfl, _, _, _, [], _, [], hW', trodAll_mk1 (shut_bool Try.underlying4 _), (trodAll_cons_mk (Below.trod laidOut (by kernel_rfl) (of_decide_eq_true (by kernel_rfl)) k0 bel lt0) (trodAll_cons_mk (shut_int Try.underlying3 w1) (trodAll_cons_mk (shut_int Try.underlying5 w2) trodAll_mk0))), rfl, bel.frame _, fun h => by cases h⟩
theorem over : Rows.macTurnedRow.holds Try.pinned (OpenSpec.ofChange Rows.macTurnedSpec) :=
  OpenClaim.holds_of_wide 9 Try.f9 rfl rfl rfl rfl rfl rfl rfl ⟨rfl, rfl, rfl, rfl, rfl⟩ rfl rfl rfl rfl rfl (by kernel_rfl) Try.func9 (by kernel_rfl)
    (of_decide_eq_true (by kernel_rfl)) (by unfold Func.isWrapper; first | (rw [if_pos (by decide +kernel)]; kernel_rfl) | (rw [if_neg (by decide +kernel)]; exact ⟨rfl, rfl⟩))
    (fun os started H enc _ => lifted os started H enc)
end Go.Proofs.Ytkglpcajjieblaa.macTurned
namespace Go.Proofs.Ytkglpcajjieblaa
/-- The row, under a short name, for the claim. -/
theorem macTurned_holds : Rows.MacTurnedSaid := macTurned.over
#print axioms macTurned_holds
end Go.Proofs.Ytkglpcajjieblaa
