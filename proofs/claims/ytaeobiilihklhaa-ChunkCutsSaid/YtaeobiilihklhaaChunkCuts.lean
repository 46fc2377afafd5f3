/- The law ChunkCuts: its call returns true, for any text and any measure. -/
import Derived.Test.YtaeobiilihklhaaChunkR
namespace Go.Proofs.Ytaeobiilihklhaa.F
open Go Go.RowKit Go.Proofs.YtaeobiilihklhaaW.PrintWords Go.Proofs.YtaeobiilihklhaaW.PrintLast Go.Proofs.YtaeobiilihklhaaW.PrintMore Go.Proofs.YtaeobiilihklhaaM Go.Proofs.YtaeobiilihklhaaR
set_option linter.unusedSimpArgs false
set_option linter.unusedVariables false
set_option maxRecDepth 100000
set_option maxHeartbeats 2000000 in
theorem ChunkCuts_c (w : World) (t : ByteArray) (lo hi bits : Int) (ht : t.size ≤ 140737488351232) (_h0 : (Lit.int .i64 lo).wf = true) (_h1 : (Lit.int .i64 hi).wf = true) (_h2 : (Lit.int .i64 bits).wf = true) :
    Calls Try.prog 3 #[.string t, .agg #[.int .i64 lo, .int .i64 hi, .int .i64 bits]] w (Tells w (Is (.bool true))) := by
  clear _h0 _h1 _h2
  by_cases h : 3000 < t.size
  · have h1 : decide (3000 < t.size) = true := decide_eq_true h
    go_enter Try.func3, Try.ntmps3
    go_wp2_with fail
    refine (lives_c _).mono ?_
    rintro e w' ⟨_, rfl, rfl, hg⟩
    go_wp2
    go_ret
    exact ⟨_, rfl, rfl, (Grew.alloc _ _).trans hg⟩
  · have h1 : decide (3000 < t.size) = false := decide_eq_false h
    have hb0 := Blk.new w 23 [.int .i64 lo, .int .i64 hi, .int .i64 bits]
    have HB0 := Lib.hid hb0
    clear hb0
    by_cases hm : mayM lo hi bits
    · have HC := Lib.hid (fun w => cut_c t lo hi bits w hm (by omega))
      have HN := Lib.hid (fun w => cnew_c lo hi bits w hm)
      have hmy := fun w => lmay_c lo hi bits w
      rw [decide_eq_true hm] at hmy
      have HMy := Lib.hid hmy
      have HR := Lib.hid (fun w => rcut_c t lo hi bits w hm.2.1 (by omega))
      have hcl := chunksL_len lo hi bits (bytesOf t)
      rw [bytesOf_length] at hcl
      clear hm hmy
      go_enter Try.func3, Try.ntmps3
      go_wp2_with fail
      refine (HC.out _).mono ?_
      rintro e w1 ⟨_, rfl, ⟨v1, rfl, ho1⟩, hg1⟩
      have hb1 := HB0.out.grew hg1
      have k0 := hb1.at_ 0
      have k1 := hb1.at_ 1
      have k2 := hb1.at_ 2
      simp only [List.getElem?_cons_succ, List.getElem?_cons_zero] at k0 k1 k2
      go_wp2_with fail
      refine (HN.out _).mono ?_
      rintro e w2 ⟨_, rfl, ⟨gc, g, gb, rfl, hcut⟩, hg2⟩
      clear k0 k1 k2
      have hb2 := hb1.grew hg2
      have k0 := hb2.at_ 0
      have k1 := hb2.at_ 1
      have k2 := hb2.at_ 2
      simp only [List.getElem?_cons_succ, List.getElem?_cons_zero] at k0 k1 k2
      go_wp2_with fail
      refine (HMy.out _).mono ?_
      rintro e w3 ⟨_, rfl, rfl, hg3⟩
      clear k0 k1 k2
      have hb3 := hb2.grew hg3
      have k0 := hb3.at_ 0
      have k1 := hb3.at_ 1
      have k2 := hb3.at_ 2
      simp only [List.getElem?_cons_succ, List.getElem?_cons_zero] at k0 k1 k2
      obtain ⟨A1, c1, rfl, -, hc1, hC1⟩ := own_strs ho1
      go_wp2_with fail
      refine (HR.out _).mono ?_
      rintro e w4 ⟨v4, rfl, ho4, hg4⟩
      obtain ⟨A4, c4, rfl, hl4, hc4, hC4⟩ := own_strs ho4
      rw [← strs_len] at hc4 hC4
      have HS := Lib.hid (same_c A1 c1 A4 c4 _ w4 (Kd.C_below hC1 (hg2.trans (hg3.trans hg4))) hc1 hC4 hc4 (by rw [strs_len]; omega))
      clear hC1 hC4 ho1 ho4 k0 k1 k2 hb1 hb2 hb3 hcut
      rw [strs_len] at HS
      go_wp2_with fail
      refine HS.out.mono ?_
      rintro e w5 ⟨_, rfl, rfl, hg5⟩
      go_wp2_with fail
      refine (lives_c _).mono ?_
      rintro e w6 ⟨_, rfl, rfl, hg6⟩
      go_wp2
      go_ret
      exact ⟨_, rfl, rfl, (Grew.alloc _ _).trans (hg1.trans (hg2.trans (hg3.trans (hg4.trans (hg5.trans hg6)))))⟩
    · have HC := Lib.hid (fun w => cut_no t lo hi bits w hm)
      have HN := Lib.hid (fun w => cnew_no lo hi bits w hm)
      have hmy := fun w => lmay_c lo hi bits w
      rw [decide_eq_false hm] at hmy
      have HMy := Lib.hid hmy
      clear hm hmy
      go_enter Try.func3, Try.ntmps3
      go_wp2_with fail
      refine (HC.out _).mono ?_
      rintro e w1 ⟨_, rfl, rfl, hg1⟩
      have hb1 := HB0.out.grew hg1
      have k0 := hb1.at_ 0
      have k1 := hb1.at_ 1
      have k2 := hb1.at_ 2
      simp only [List.getElem?_cons_succ, List.getElem?_cons_zero] at k0 k1 k2
      go_wp2_with fail
      refine (HN.out _).mono ?_
      rintro e w2 ⟨_, rfl, rfl, hg2⟩
      clear k0 k1 k2
      have hb2 := hb1.grew hg2
      have k0 := hb2.at_ 0
      have k1 := hb2.at_ 1
      have k2 := hb2.at_ 2
      simp only [List.getElem?_cons_succ, List.getElem?_cons_zero] at k0 k1 k2
      go_wp2_with fail
      refine (HMy.out _).mono ?_
      rintro e w3 ⟨_, rfl, rfl, hg3⟩
      go_wp2_with fail
      refine (lives_c _).mono ?_
      rintro e w6 ⟨_, rfl, rfl, hg6⟩
      go_wp2
      go_ret
      exact ⟨_, rfl, rfl, (Grew.alloc _ _).trans (hg1.trans (hg2.trans (hg3.trans hg6)))⟩
end Go.Proofs.Ytaeobiilihklhaa.F
