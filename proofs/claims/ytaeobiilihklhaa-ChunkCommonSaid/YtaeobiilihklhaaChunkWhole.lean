/- The law ChunkWhole: its call returns true, for any text and any measure: chunks put together are the text, and how long they are. -/
import Derived.Test.YtaeobiilihklhaaChunkR
namespace Go.Proofs.Ytaeobiilihklhaa.F
open Go Go.RowKit Go.Proofs.YtaeobiilihklhaaW.PrintWords Go.Proofs.YtaeobiilihklhaaW.PrintLast Go.Proofs.YtaeobiilihklhaaW.PrintMore Go.Proofs.YtaeobiilihklhaaM Go.Proofs.YtaeobiilihklhaaR
set_option linter.unusedSimpArgs false
set_option linter.unusedVariables false
set_option maxRecDepth 100000
theorem chunks_at {lo hi bits : Int} (hm : mayM lo hi bits) (l : List Int) {pre suf : List (List Int)} {c : List Int} (h : chunksL lo hi bits l = pre ++ c :: suf) : (c.length : Int) ≤ hi ∧ (suf ≠ [] → lo ≤ (c.length : Int)) ∧ c ≠ [] := by
  have hlo := hm.1
  have hw := cutRun_wait hm l [] [] [] (by have := hm.2.1; simp; omega)
  have hl := cutRun_lens hm l [] [] [] (by have := hm.2.1; simp; omega) (by simp)
  unfold chunksL finish at h
  generalize (cutRun lo hi bits [] [] l []).1 = A at *
  generalize (cutRun lo hi bits [] [] l []).2.2 = b at *
  have hc : c ∈ A ++ opt b := by rw [h]; simp
  rcases List.append_eq_append_iff.1 h with ⟨m, hm1, hm2⟩ | ⟨m, hm1, hm2⟩
  · -- A is a part of pre
    have hcb : c ∈ opt b := by rw [hm2]; simp
    have := opt_len b
    rw [hm2] at this
    simp only [List.length_append, List.length_cons] at this
    refine ⟨by rw [(opt_mem hcb).1]; omega, fun hs => absurd (List.eq_nil_of_length_eq_zero (by omega)) hs, by rw [(opt_mem hcb).1]; exact (opt_mem hcb).2⟩
  · cases m with
    | nil =>
      simp only [List.nil_append] at hm2
      have hcb : c ∈ opt b := by rw [← hm2]; simp
      have := opt_len b
      rw [← hm2] at this
      simp only [List.length_cons] at this
      refine ⟨by rw [(opt_mem hcb).1]; omega, fun hs => absurd (List.eq_nil_of_length_eq_zero (by omega)) hs, by rw [(opt_mem hcb).1]; exact (opt_mem hcb).2⟩
    | cons c' m =>
      simp only [List.cons_append, List.cons.injEq] at hm2
      obtain ⟨rfl, -⟩ := hm2
      have := hl c (by rw [hm1]; simp)
      exact ⟨this.2, fun _ => this.1, fun e => by rw [e] at this; simp at this; omega⟩
theorem strs_cell {w : World} {A : Option Addr} {n : Nat} {ss : List ByteArray} (h : Kd.C Kd.string w A n ss) (i : Nat) (hi : i < n) : ∃ ad, A = some ad ∧ w.cell? (ad.add i) = some (.string (ss.getD i ByteArray.empty)) := by
  obtain ⟨ad, hA, hc⟩ := (Kd.reads_of_C (enc := Value.string) (d := ByteArray.empty) (h1 := fun _ => rfl) h).at_ (i : Int) (by omega) (by omega)
  exact ⟨ad, hA, by simpa [rdOf] using hc⟩
theorem strs_mid (pre : List (List Int)) (c : List Int) (suf : List (List Int)) : (strs (pre ++ c :: suf)).getD pre.length ByteArray.empty = strOfNums c := by
  simp [strs, List.getD]
theorem str_app (l m : List Int) : strOfNums l ++ strOfNums m = strOfNums (l ++ m) := by
  unfold strOfNums
  apply ByteArray.ext
  simp
set_option maxHeartbeats 2000000 in
theorem ChunkWhole_c (w : World) (t : ByteArray) (lo hi bits : Int) (ht : t.size ≤ 140737488351232) (h0 : (Lit.int .i64 lo).wf = true) (h1 : (Lit.int .i64 hi).wf = true) (h2 : (Lit.int .i64 bits).wf = true) :
    Calls Try.prog 4 #[.string t, .agg #[.int .i64 lo, .int .i64 hi, .int .i64 bits]] w (Tells w (Is (.bool true))) := by
  clear h0 h1 h2
  by_cases h : 5000 < t.size
  · have h1 : decide (5000 < t.size) = true := decide_eq_true h
    go_enter Try.func4, Try.ntmps4
    go_wp2_with fail
    refine (lives_c _).mono ?_
    rintro e w' ⟨_, rfl, rfl, hg⟩
    go_wp2
    go_ret
    exact ⟨_, rfl, rfl, (Grew.alloc _ _).trans hg⟩
  · have h1 : decide (5000 < t.size) = false := decide_eq_false h
    have hb0 := Blk.new w 23 [.int .i64 lo, .int .i64 hi, .int .i64 bits]
    have HB0 := Lib.hid hb0
    clear hb0
    by_cases hm : mayM lo hi bits
    · have HC := Lib.hid (fun w => cut_c t lo hi bits w hm (by omega))
      have hcl := chunksL_len lo hi bits (bytesOf t)
      have hfl := chunksL_flat lo hi bits (bytesOf t)
      have HAt := Lib.hid (fun pre suf c => @chunks_at lo hi bits hm (bytesOf t) pre suf c)
      rw [bytesOf_length] at hcl
      obtain ⟨cs, hcs⟩ : ∃ cs, cs = chunksL lo hi bits (bytesOf t) := ⟨_, rfl⟩
      rw [← hcs] at HC HAt hcl hfl
      have HFl := Lib.hid hfl
      clear hm hcs hfl
      go_enter Try.func4, Try.ntmps4
      go_wp2_with fail
      refine (HC.out _).mono ?_
      rintro e w1 ⟨_, rfl, ⟨v1, rfl, ho1⟩, hg1⟩
      have hb1 := HB0.out.grew hg1
      rw [strs_len] at ho1
      obtain ⟨A1, c1, rfl, -, hc1, hC1⟩ := own_strs ho1
      have hgw1 : Grew w w1 := (Grew.alloc _ _).trans hg1
      have HCr := Lib.hid hC1
      have HBr := Lib.hid hb1
      clear ho1 hb1 hC1
      go_wp2_with fail
      go_loopw [7, 8] (fun sv iv wr => ∃ pre suf : List (List Int), cs = pre ++ suf ∧ iv = .int .i64 (pre.length : Int) ∧ sv = .string (strOfNums pre.flatten) ∧ Grew w1 wr) (fun _ iv _ => cs.length - (intOf iv).toNat)
      case atStart => exact ⟨[], cs, rfl, rfl, rfl, Grew.refl _⟩
      case round =>
        obtain ⟨pre, suf, hp, rfl, rfl, hgr⟩ := hrel
        rcases suf with _ | ⟨c, suf⟩
        · have hlen : cs.length = pre.length := by rw [hp]; simp
          have hfe : strOfNums pre.flatten = t := by
            have := HFl.out
            rw [hp] at this
            rw [show pre.flatten = (pre ++ []).flatten from by simp, this]
            exact str_bytesOf t
          have d2 : decide (pre.length < cs.length) = false := decide_eq_false (by omega)
          rw [hfe]
          clear hp hlen hfe
          go_wp2_with fail
          refine (lives_c _).mono ?_
          rintro e w2 ⟨_, rfl, rfl, hg2⟩
          go_wp2
          go_ret
          exact ⟨_, rfl, rfl, hgw1.trans (hgr.trans hg2)⟩
        · have hlen : cs.length = pre.length + suf.length + 1 := by rw [hp]; simp; omega
          have d2 : decide (pre.length < cs.length) = true := decide_eq_true (by omega)
          have hlt : pre.length < cs.length := by omega
          obtain ⟨hi1, hlo1, hne⟩ := HAt.out pre suf c hp
          obtain ⟨ad, rfl, hcell⟩ := strs_cell (Kd.C_below HCr.out hgr) pre.length (by omega)
          rw [show (strs cs).getD pre.length ByteArray.empty = strOfNums c from by rw [hp]; exact strs_mid pre c suf] at hcell
          have happ : strOfNums pre.flatten ++ strOfNums c = strOfNums (pre ++ [c]).flatten := by rw [str_app]; simp
          have hfl := congrArg List.length HFl.out
          rw [bytesOf_length, hp] at hfl
          simp only [List.flatten_append, List.flatten_cons, List.length_append] at hfl
          have hz1 : (strOfNums pre.flatten).size = pre.flatten.length := str_size _
          have hz2 : (strOfNums c).size = c.length := str_size _
          have hcl : c.length ≤ 5000 := by omega
          have hpl : pre.flatten.length ≤ 5000 := by omega
          have hpos : 0 < c.length := by cases c with
            | nil => exact absurd rfl hne
            | cons => simp
          have hem : (strOfNums c).toList.isEmpty = false := by rw [str_empty]; cases c with
            | nil => exact absurd rfl hne
            | cons => rfl
          have hem2 : ¬ (strOfNums c).toList = [] := by simpa using hem
          have e1 : decide (hi < (c.length : Int)) = false := decide_eq_false (by omega)
          have HP := Lib.hid hp
          have hb := HBr.out.grew hgr
          have K0 := Lib.hid (hb.at_ 0)
          have K1 := Lib.hid (hb.at_ 1)
          have HCell := Lib.hid hcell
          have k0 := hb.at_ 0
          simp only [List.getElem?_cons_zero] at k0
          have e5 : IntKind.i64.wrap ((cs.length : Int) - 1) = (cs.length : Int) - 1 := IntWalk.i64_in _ (by omega)
          clear hp hfl hne hb
          by_cases hs : suf = []
          · have d3 : decide ((pre.length : Int) < (cs.length : Int) - 1) = false := decide_eq_false (by rw [hs] at hlen; simp at hlen; omega)
            clear hs hlen hlo1
            go_wp2_with fail
            apply region_grew [Is _, Is _, Is _, Is _, Is _, Is _, Is _, Is _, Is _, Is _, Is _, Is _, Is _, Is _, Is _, Is undef, Is undef, Is undef, Is undef, Is undef, Is undef, Is undef, Is undef, Is _, Is _, Is _, Is _, Is _] [([(5, none)], none), ([(8, none)], none), ([(44, some 0), (45, some 1)], none), ([(46, some 2)], none), ([(47, some 3)], none), ([(3, none)], none), ([(49, some 5)], none), ([(48, some 4), (50, some 6)], none), ([(51, some 7)], none), ([(8, none), (52, some 8)], some (52, false)), ([(5, none), (52, some 8)], some (52, false)), ([(54, some 10), (52, some 8)], some (52, false)), ([(55, some 11), (52, some 8)], some (52, false)), ([(53, some 9), (56, some 12), (52, some 8)], some (52, false)), ([(57, some 13), (52, some 8)], some (52, false)), ([(5, none), (58, some 14)], some (58, true)), ([(8, none), (58, some 14)], some (58, true)), ([(59, some 15), (60, some 16), (58, some 14)], some (58, true)), ([(61, some 17), (58, some 14)], some (58, true)), ([(62, some 18), (58, some 14)], some (58, true)), ([(3, none), (58, some 14)], some (58, true)), ([(64, some 20), (58, some 14)], some (58, true)), ([(63, some 19), (65, some 21), (58, some 14)], some (58, true)), ([(58, some 14), (66, some 22), (52, some 8)], some (52, false)), ([(52, some 8), (67, some 23)], none), ([(68, some 24)], none), ([(5, none), (69, some 25)], some (69, false)), ([(8, none), (69, some 25)], some (69, false))] [(44, 0), (45, 1), (46, 2), (47, 3), (48, 4), (49, 5), (50, 6), (51, 7), (52, 8), (53, 9), (54, 10), (55, 11), (56, 12), (57, 13), (58, 14), (59, 15), (60, 16), (61, 17), (62, 18), (63, 19), (64, 20), (65, 21), (66, 22), (67, 23), (68, 24), (69, 25), (70, 26), (71, 27)] rfl (by kernel_rfl) (by kernel_rfl) (show Stable Grew _ from ⟨Is.stable _, Is.stable _, Is.stable _, Is.stable _, Is.stable _, Is.stable _, Is.stable _, Is.stable _, Is.stable _, Is.stable _, Is.stable _, Is.stable _, Is.stable _, Is.stable _, Is.stable _, Is.stable _, Is.stable _, Is.stable _, Is.stable _, Is.stable _, Is.stable _, Is.stable _, Is.stable _, Is.stable _, Is.stable _, Is.stable _, Is.stable _, Is.stable _, trivial⟩)
            · show OpsHold _ _ _ _ _ _ _ _ _
              refine ⟨fun a_ wx hR hD K hK => ?_, ?_⟩
              · have hG : Grew wr wx := (Grew.drew _).trans hR
                simp [Deps, Dep, at_, Is] at hD
                go_simp
                exact hK _ _ (Grew.refl _) rfl
              refine ⟨fun a_ wx hR hD K hK => ?_, ?_⟩
              · have hG : Grew wr wx := (Grew.drew _).trans hR
                simp [Deps, Dep, at_, Is] at hD
                go_simp
                exact hK _ _ (Grew.refl _) rfl
              refine ⟨fun a_ wx hR hD K hK => ?_, ?_⟩
              · have hG : Grew wr wx := (Grew.drew _).trans hR
                simp [Deps, Dep, at_, Is] at hD
                obtain ⟨hd0, hd1⟩ := hD
                go_simp
                exact hK _ _ (Grew.refl _) rfl
              refine ⟨fun a_ wx hR hD K hK => ?_, ?_⟩
              · have hG : Grew wr wx := (Grew.drew _).trans hR
                simp [Deps, Dep, at_, Is] at hD
                have e_ := pw_cell_below hG HCell.out
                go_simp
                exact hK _ _ (Grew.refl _) rfl
              refine ⟨fun a_ wx hR hD K hK => ?_, ?_⟩
              · have hG : Grew wr wx := (Grew.drew _).trans hR
                simp [Deps, Dep, at_, Is] at hD
                go_simp
                exact hK _ _ (Grew.refl _) rfl
              refine ⟨fun a_ wx hR hD K hK => ?_, ?_⟩
              · have hG : Grew wr wx := (Grew.drew _).trans hR
                simp [Deps, Dep, at_, Is] at hD
                go_simp
                exact hK _ _ (Grew.refl _) rfl
              refine ⟨fun a_ wx hR hD K hK => ?_, ?_⟩
              · have hG : Grew wr wx := (Grew.drew _).trans hR
                simp [Deps, Dep, at_, Is] at hD
                have e_ := pw_cell_below hG K1.out
                go_simp
                exact hK _ _ (Grew.refl _) rfl
              refine ⟨fun a_ wx hR hD K hK => ?_, ?_⟩
              · have hG : Grew wr wx := (Grew.drew _).trans hR
                simp [Deps, Dep, at_, Is] at hD
                obtain ⟨hd0, hd1⟩ := hD
                go_simp
                exact hK _ _ (Grew.refl _) rfl
              refine ⟨fun a_ wx hR hD K hK => ?_, ?_⟩
              · have hG : Grew wr wx := (Grew.drew _).trans hR
                simp [Deps, Dep, at_, Is] at hD
                go_simp
                exact hK _ _ (Grew.refl _) rfl
              refine ⟨fun a_ wx hR hD => ⟨fun hgd K hK => ?_, fun hgd => ?_⟩, ?_⟩
              · have hG : Grew wr wx := (Grew.drew _).trans hR
                clear hgd
                simp [Deps, Dep, at_, Is] at hD
                obtain ⟨hd0, hd1⟩ := hD
                go_simp
                exact hK _ _ (Grew.refl _) rfl
              · have hG : Grew wr wx := (Grew.drew _).trans hR
                exfalso
                simp [Deps, Dep, at_, Is] at hD
                simp_all
              refine ⟨fun a_ wx hR hD => ⟨fun hgd K hK => ?_, fun hgd => ?_⟩, ?_⟩
              · have hG : Grew wr wx := (Grew.drew _).trans hR
                clear hgd
                simp [Deps, Dep, at_, Is] at hD
                obtain ⟨hd0, hd1⟩ := hD
                go_simp
                exact hK _ _ (Grew.refl _) rfl
              · have hG : Grew wr wx := (Grew.drew _).trans hR
                exfalso
                simp [Deps, Dep, at_, Is] at hD
                simp_all
              refine ⟨fun a_ wx hR hD => ⟨fun hgd K hK => ?_, fun hgd => ?_⟩, ?_⟩
              · have hG : Grew wr wx := (Grew.drew _).trans hR
                clear hgd
                simp [Deps, Dep, at_, Is] at hD
                obtain ⟨hd0, hd1⟩ := hD
                go_simp
                exact hK _ _ (Grew.refl _) rfl
              · have hG : Grew wr wx := (Grew.drew _).trans hR
                exfalso
                simp [Deps, Dep, at_, Is] at hD
                simp_all
              refine ⟨fun a_ wx hR hD => ⟨fun hgd K hK => ?_, fun hgd => ?_⟩, ?_⟩
              · have hG : Grew wr wx := (Grew.drew _).trans hR
                clear hgd
                simp [Deps, Dep, at_, Is] at hD
                obtain ⟨hd0, hd1⟩ := hD
                go_simp
                exact hK _ _ (Grew.refl _) rfl
              · have hG : Grew wr wx := (Grew.drew _).trans hR
                exfalso
                simp [Deps, Dep, at_, Is] at hD
                simp_all
              refine ⟨fun a_ wx hR hD => ⟨fun hgd K hK => ?_, fun hgd => ?_⟩, ?_⟩
              · have hG : Grew wr wx := (Grew.drew _).trans hR
                clear hgd
                simp [Deps, Dep, at_, Is] at hD
                obtain ⟨hd0, hd1, hd2⟩ := hD
                go_simp
                exact hK _ _ (Grew.refl _) rfl
              · have hG : Grew wr wx := (Grew.drew _).trans hR
                exfalso
                simp [Deps, Dep, at_, Is] at hD
                simp_all
              refine ⟨fun a_ wx hR hD => ⟨fun hgd K hK => ?_, fun hgd => ?_⟩, ?_⟩
              · have hG : Grew wr wx := (Grew.drew _).trans hR
                clear hgd
                simp [Deps, Dep, at_, Is] at hD
                obtain ⟨hd0, hd1⟩ := hD
                go_simp
                exact hK _ _ (Grew.refl _) rfl
              · have hG : Grew wr wx := (Grew.drew _).trans hR
                exfalso
                simp [Deps, Dep, at_, Is] at hD
                simp_all
              refine ⟨fun a_ wx hR hD => ⟨fun hgd K hK => ?_, fun hgd => ?_⟩, ?_⟩
              · have hG : Grew wr wx := (Grew.drew _).trans hR
                exfalso
                simp [Deps, Dep, at_, Is] at hD
                simp_all
              · exact rfl
              refine ⟨fun a_ wx hR hD => ⟨fun hgd K hK => ?_, fun hgd => ?_⟩, ?_⟩
              · have hG : Grew wr wx := (Grew.drew _).trans hR
                exfalso
                simp [Deps, Dep, at_, Is] at hD
                simp_all
              · exact rfl
              refine ⟨fun a_ wx hR hD => ⟨fun hgd K hK => ?_, fun hgd => ?_⟩, ?_⟩
              · have hG : Grew wr wx := (Grew.drew _).trans hR
                exfalso
                simp [Deps, Dep, at_, Is] at hD
                simp_all
              · exact rfl
              refine ⟨fun a_ wx hR hD => ⟨fun hgd K hK => ?_, fun hgd => ?_⟩, ?_⟩
              · have hG : Grew wr wx := (Grew.drew _).trans hR
                exfalso
                simp [Deps, Dep, at_, Is] at hD
                simp_all
              · exact rfl
              refine ⟨fun a_ wx hR hD => ⟨fun hgd K hK => ?_, fun hgd => ?_⟩, ?_⟩
              · have hG : Grew wr wx := (Grew.drew _).trans hR
                exfalso
                simp [Deps, Dep, at_, Is] at hD
                simp_all
              · exact rfl
              refine ⟨fun a_ wx hR hD => ⟨fun hgd K hK => ?_, fun hgd => ?_⟩, ?_⟩
              · have hG : Grew wr wx := (Grew.drew _).trans hR
                exfalso
                simp [Deps, Dep, at_, Is] at hD
                simp_all
              · exact rfl
              refine ⟨fun a_ wx hR hD => ⟨fun hgd K hK => ?_, fun hgd => ?_⟩, ?_⟩
              · have hG : Grew wr wx := (Grew.drew _).trans hR
                exfalso
                simp [Deps, Dep, at_, Is] at hD
                simp_all
              · exact rfl
              refine ⟨fun a_ wx hR hD => ⟨fun hgd K hK => ?_, fun hgd => ?_⟩, ?_⟩
              · have hG : Grew wr wx := (Grew.drew _).trans hR
                exfalso
                simp [Deps, Dep, at_, Is] at hD
                simp_all
              · exact rfl
              refine ⟨fun a_ wx hR hD => ⟨fun hgd K hK => ?_, fun hgd => ?_⟩, ?_⟩
              · have hG : Grew wr wx := (Grew.drew _).trans hR
                clear hgd
                simp [Deps, Dep, at_, Is] at hD
                obtain ⟨hd0, hd1, hd2⟩ := hD
                go_simp
                exact hK _ _ (Grew.refl _) rfl
              · have hG : Grew wr wx := (Grew.drew _).trans hR
                exfalso
                simp [Deps, Dep, at_, Is] at hD
                simp_all
              refine ⟨fun a_ wx hR hD K hK => ?_, ?_⟩
              · have hG : Grew wr wx := (Grew.drew _).trans hR
                simp [Deps, Dep, at_, Is] at hD
                obtain ⟨hd0, hd1⟩ := hD
                go_simp
                exact hK _ _ (Grew.refl _) rfl
              refine ⟨fun a_ wx hR hD K hK => ?_, ?_⟩
              · have hG : Grew wr wx := (Grew.drew _).trans hR
                simp [Deps, Dep, at_, Is] at hD
                go_simp
                exact hK _ _ (Grew.refl _) rfl
              refine ⟨fun a_ wx hR hD => ⟨fun hgd K hK => ?_, fun hgd => ?_⟩, ?_⟩
              · have hG : Grew wr wx := (Grew.drew _).trans hR
                clear hgd
                simp [Deps, Dep, at_, Is] at hD
                obtain ⟨hd0, hd1⟩ := hD
                go_simp
                exact hK _ _ (Grew.refl _) rfl
              · have hG : Grew wr wx := (Grew.drew _).trans hR
                exfalso
                simp [Deps, Dep, at_, Is] at hD
                simp_all
              refine ⟨fun a_ wx hR hD => ⟨fun hgd K hK => ?_, fun hgd => ?_⟩, ?_⟩
              · have hG : Grew wr wx := (Grew.drew _).trans hR
                clear hgd
                simp [Deps, Dep, at_, Is] at hD
                obtain ⟨hd0, hd1⟩ := hD
                go_simp
                exact hK _ _ (Grew.refl _) rfl
              · have hG : Grew wr wx := (Grew.drew _).trans hR
                exfalso
                simp [Deps, Dep, at_, Is] at hD
                simp_all
              trivial
            · show EndHold _ _ _ _ _ _ _
              refine end_all (xs := [_, _, _, _, _, _, _, _, _, _, _, _, _, _, _, _, _, _, _, _, _, _, _, _, _, _, _, _]) ⟨rfl, rfl, rfl, rfl, rfl, rfl, rfl, rfl, rfl, rfl, rfl, rfl, rfl, rfl, rfl, rfl, rfl, rfl, rfl, rfl, rfl, rfl, rfl, rfl, rfl, rfl, rfl, rfl, trivial⟩ ?_
              rintro w2 hR1 -
              refine ⟨?_⟩
              have hG_w2 : Grew wr w2 := (Grew.drew _).trans hR1
              clear hR1
              simp only [Act.put, List.setIfInBounds_toArray, List.set_cons_succ, List.set_cons_zero, dropN, putEach]
              have hcell2 := pw_cell_below hG_w2 HCell.out
              go_wp2_with fail
              go_roundw
              case rel => exact ⟨pre ++ [c], suf, by rw [HP.out]; simp, by simp, by simp, hgr.trans hG_w2⟩
              case measure => simp [intOf]; omega
          · have d3 : decide ((pre.length : Int) < (cs.length : Int) - 1) = true := decide_eq_true (by have h7 : 0 < suf.length := List.length_pos_iff.2 hs; omega)
            have d4 : decide ((c.length : Int) < lo) = false := decide_eq_false (by have := hlo1 hs; omega)
            clear hs hlen hlo1
            go_wp2_with fail
            apply region_grew [Is _, Is _, Is _, Is _, Is _, Is _, Is _, Is _, Is _, Is _, Is _, Is _, Is _, Is _, Is _, Is _, Is _, Is _, Is _, Is _, Is _, Is _, Is _, Is _, Is _, Is _, Is _, Is _] [([(5, none)], none), ([(8, none)], none), ([(44, some 0), (45, some 1)], none), ([(46, some 2)], none), ([(47, some 3)], none), ([(3, none)], none), ([(49, some 5)], none), ([(48, some 4), (50, some 6)], none), ([(51, some 7)], none), ([(8, none), (52, some 8)], some (52, false)), ([(5, none), (52, some 8)], some (52, false)), ([(54, some 10), (52, some 8)], some (52, false)), ([(55, some 11), (52, some 8)], some (52, false)), ([(53, some 9), (56, some 12), (52, some 8)], some (52, false)), ([(57, some 13), (52, some 8)], some (52, false)), ([(5, none), (58, some 14)], some (58, true)), ([(8, none), (58, some 14)], some (58, true)), ([(59, some 15), (60, some 16), (58, some 14)], some (58, true)), ([(61, some 17), (58, some 14)], some (58, true)), ([(62, some 18), (58, some 14)], some (58, true)), ([(3, none), (58, some 14)], some (58, true)), ([(64, some 20), (58, some 14)], some (58, true)), ([(63, some 19), (65, some 21), (58, some 14)], some (58, true)), ([(58, some 14), (66, some 22), (52, some 8)], some (52, false)), ([(52, some 8), (67, some 23)], none), ([(68, some 24)], none), ([(5, none), (69, some 25)], some (69, false)), ([(8, none), (69, some 25)], some (69, false))] [(44, 0), (45, 1), (46, 2), (47, 3), (48, 4), (49, 5), (50, 6), (51, 7), (52, 8), (53, 9), (54, 10), (55, 11), (56, 12), (57, 13), (58, 14), (59, 15), (60, 16), (61, 17), (62, 18), (63, 19), (64, 20), (65, 21), (66, 22), (67, 23), (68, 24), (69, 25), (70, 26), (71, 27)] rfl (by kernel_rfl) (by kernel_rfl) (show Stable Grew _ from ⟨Is.stable _, Is.stable _, Is.stable _, Is.stable _, Is.stable _, Is.stable _, Is.stable _, Is.stable _, Is.stable _, Is.stable _, Is.stable _, Is.stable _, Is.stable _, Is.stable _, Is.stable _, Is.stable _, Is.stable _, Is.stable _, Is.stable _, Is.stable _, Is.stable _, Is.stable _, Is.stable _, Is.stable _, Is.stable _, Is.stable _, Is.stable _, Is.stable _, trivial⟩)
            · show OpsHold _ _ _ _ _ _ _ _ _
              refine ⟨fun a_ wx hR hD K hK => ?_, ?_⟩
              · have hG : Grew wr wx := (Grew.drew _).trans hR
                simp [Deps, Dep, at_, Is] at hD
                go_simp
                exact hK _ _ (Grew.refl _) rfl
              refine ⟨fun a_ wx hR hD K hK => ?_, ?_⟩
              · have hG : Grew wr wx := (Grew.drew _).trans hR
                simp [Deps, Dep, at_, Is] at hD
                go_simp
                exact hK _ _ (Grew.refl _) rfl
              refine ⟨fun a_ wx hR hD K hK => ?_, ?_⟩
              · have hG : Grew wr wx := (Grew.drew _).trans hR
                simp [Deps, Dep, at_, Is] at hD
                obtain ⟨hd0, hd1⟩ := hD
                go_simp
                exact hK _ _ (Grew.refl _) rfl
              refine ⟨fun a_ wx hR hD K hK => ?_, ?_⟩
              · have hG : Grew wr wx := (Grew.drew _).trans hR
                simp [Deps, Dep, at_, Is] at hD
                have e_ := pw_cell_below hG HCell.out
                go_simp
                exact hK _ _ (Grew.refl _) rfl
              refine ⟨fun a_ wx hR hD K hK => ?_, ?_⟩
              · have hG : Grew wr wx := (Grew.drew _).trans hR
                simp [Deps, Dep, at_, Is] at hD
                go_simp
                exact hK _ _ (Grew.refl _) rfl
              refine ⟨fun a_ wx hR hD K hK => ?_, ?_⟩
              · have hG : Grew wr wx := (Grew.drew _).trans hR
                simp [Deps, Dep, at_, Is] at hD
                go_simp
                exact hK _ _ (Grew.refl _) rfl
              refine ⟨fun a_ wx hR hD K hK => ?_, ?_⟩
              · have hG : Grew wr wx := (Grew.drew _).trans hR
                simp [Deps, Dep, at_, Is] at hD
                have e_ := pw_cell_below hG K1.out
                go_simp
                exact hK _ _ (Grew.refl _) rfl
              refine ⟨fun a_ wx hR hD K hK => ?_, ?_⟩
              · have hG : Grew wr wx := (Grew.drew _).trans hR
                simp [Deps, Dep, at_, Is] at hD
                obtain ⟨hd0, hd1⟩ := hD
                go_simp
                exact hK _ _ (Grew.refl _) rfl
              refine ⟨fun a_ wx hR hD K hK => ?_, ?_⟩
              · have hG : Grew wr wx := (Grew.drew _).trans hR
                simp [Deps, Dep, at_, Is] at hD
                go_simp
                exact hK _ _ (Grew.refl _) rfl
              refine ⟨fun a_ wx hR hD => ⟨fun hgd K hK => ?_, fun hgd => ?_⟩, ?_⟩
              · have hG : Grew wr wx := (Grew.drew _).trans hR
                clear hgd
                simp [Deps, Dep, at_, Is] at hD
                obtain ⟨hd0, hd1⟩ := hD
                go_simp
                exact hK _ _ (Grew.refl _) rfl
              · have hG : Grew wr wx := (Grew.drew _).trans hR
                exfalso
                simp [Deps, Dep, at_, Is] at hD
                simp_all
              refine ⟨fun a_ wx hR hD => ⟨fun hgd K hK => ?_, fun hgd => ?_⟩, ?_⟩
              · have hG : Grew wr wx := (Grew.drew _).trans hR
                clear hgd
                simp [Deps, Dep, at_, Is] at hD
                obtain ⟨hd0, hd1⟩ := hD
                go_simp
                exact hK _ _ (Grew.refl _) rfl
              · have hG : Grew wr wx := (Grew.drew _).trans hR
                exfalso
                simp [Deps, Dep, at_, Is] at hD
                simp_all
              refine ⟨fun a_ wx hR hD => ⟨fun hgd K hK => ?_, fun hgd => ?_⟩, ?_⟩
              · have hG : Grew wr wx := (Grew.drew _).trans hR
                clear hgd
                simp [Deps, Dep, at_, Is] at hD
                obtain ⟨hd0, hd1⟩ := hD
                go_simp
                exact hK _ _ (Grew.refl _) rfl
              · have hG : Grew wr wx := (Grew.drew _).trans hR
                exfalso
                simp [Deps, Dep, at_, Is] at hD
                simp_all
              refine ⟨fun a_ wx hR hD => ⟨fun hgd K hK => ?_, fun hgd => ?_⟩, ?_⟩
              · have hG : Grew wr wx := (Grew.drew _).trans hR
                clear hgd
                simp [Deps, Dep, at_, Is] at hD
                obtain ⟨hd0, hd1⟩ := hD
                go_simp
                exact hK _ _ (Grew.refl _) rfl
              · have hG : Grew wr wx := (Grew.drew _).trans hR
                exfalso
                simp [Deps, Dep, at_, Is] at hD
                simp_all
              refine ⟨fun a_ wx hR hD => ⟨fun hgd K hK => ?_, fun hgd => ?_⟩, ?_⟩
              · have hG : Grew wr wx := (Grew.drew _).trans hR
                clear hgd
                simp [Deps, Dep, at_, Is] at hD
                obtain ⟨hd0, hd1, hd2⟩ := hD
                go_simp
                exact hK _ _ (Grew.refl _) rfl
              · have hG : Grew wr wx := (Grew.drew _).trans hR
                exfalso
                simp [Deps, Dep, at_, Is] at hD
                simp_all
              refine ⟨fun a_ wx hR hD => ⟨fun hgd K hK => ?_, fun hgd => ?_⟩, ?_⟩
              · have hG : Grew wr wx := (Grew.drew _).trans hR
                clear hgd
                simp [Deps, Dep, at_, Is] at hD
                obtain ⟨hd0, hd1⟩ := hD
                go_simp
                exact hK _ _ (Grew.refl _) rfl
              · have hG : Grew wr wx := (Grew.drew _).trans hR
                exfalso
                simp [Deps, Dep, at_, Is] at hD
                simp_all
              refine ⟨fun a_ wx hR hD => ⟨fun hgd K hK => ?_, fun hgd => ?_⟩, ?_⟩
              · have hG : Grew wr wx := (Grew.drew _).trans hR
                clear hgd
                simp [Deps, Dep, at_, Is] at hD
                obtain ⟨hd0, hd1⟩ := hD
                go_simp
                exact hK _ _ (Grew.refl _) rfl
              · have hG : Grew wr wx := (Grew.drew _).trans hR
                exfalso
                simp [Deps, Dep, at_, Is] at hD
                simp_all
              refine ⟨fun a_ wx hR hD => ⟨fun hgd K hK => ?_, fun hgd => ?_⟩, ?_⟩
              · have hG : Grew wr wx := (Grew.drew _).trans hR
                clear hgd
                simp [Deps, Dep, at_, Is] at hD
                obtain ⟨hd0, hd1⟩ := hD
                go_simp
                exact hK _ _ (Grew.refl _) rfl
              · have hG : Grew wr wx := (Grew.drew _).trans hR
                exfalso
                simp [Deps, Dep, at_, Is] at hD
                simp_all
              refine ⟨fun a_ wx hR hD => ⟨fun hgd K hK => ?_, fun hgd => ?_⟩, ?_⟩
              · have hG : Grew wr wx := (Grew.drew _).trans hR
                clear hgd
                simp [Deps, Dep, at_, Is] at hD
                obtain ⟨hd0, hd1, hd2⟩ := hD
                go_simp
                exact hK _ _ (Grew.refl _) rfl
              · have hG : Grew wr wx := (Grew.drew _).trans hR
                exfalso
                simp [Deps, Dep, at_, Is] at hD
                simp_all
              refine ⟨fun a_ wx hR hD => ⟨fun hgd K hK => ?_, fun hgd => ?_⟩, ?_⟩
              · have hG : Grew wr wx := (Grew.drew _).trans hR
                clear hgd
                simp [Deps, Dep, at_, Is] at hD
                obtain ⟨hd0, hd1⟩ := hD
                have e_ := pw_cell_below hG HCell.out
                go_simp
                exact hK _ _ (Grew.refl _) rfl
              · have hG : Grew wr wx := (Grew.drew _).trans hR
                exfalso
                simp [Deps, Dep, at_, Is] at hD
                simp_all
              refine ⟨fun a_ wx hR hD => ⟨fun hgd K hK => ?_, fun hgd => ?_⟩, ?_⟩
              · have hG : Grew wr wx := (Grew.drew _).trans hR
                clear hgd
                simp [Deps, Dep, at_, Is] at hD
                obtain ⟨hd0, hd1⟩ := hD
                go_simp
                exact hK _ _ (Grew.refl _) rfl
              · have hG : Grew wr wx := (Grew.drew _).trans hR
                exfalso
                simp [Deps, Dep, at_, Is] at hD
                simp_all
              refine ⟨fun a_ wx hR hD => ⟨fun hgd K hK => ?_, fun hgd => ?_⟩, ?_⟩
              · have hG : Grew wr wx := (Grew.drew _).trans hR
                clear hgd
                simp [Deps, Dep, at_, Is] at hD
                obtain ⟨hd0, hd1⟩ := hD
                go_simp
                exact hK _ _ (Grew.refl _) rfl
              · have hG : Grew wr wx := (Grew.drew _).trans hR
                exfalso
                simp [Deps, Dep, at_, Is] at hD
                simp_all
              refine ⟨fun a_ wx hR hD => ⟨fun hgd K hK => ?_, fun hgd => ?_⟩, ?_⟩
              · have hG : Grew wr wx := (Grew.drew _).trans hR
                clear hgd
                simp [Deps, Dep, at_, Is] at hD
                obtain ⟨hd0, hd1⟩ := hD
                have e_ := pw_cell_below hG K0.out
                go_simp
                exact hK _ _ (Grew.refl _) rfl
              · have hG : Grew wr wx := (Grew.drew _).trans hR
                exfalso
                simp [Deps, Dep, at_, Is] at hD
                simp_all
              refine ⟨fun a_ wx hR hD => ⟨fun hgd K hK => ?_, fun hgd => ?_⟩, ?_⟩
              · have hG : Grew wr wx := (Grew.drew _).trans hR
                clear hgd
                simp [Deps, Dep, at_, Is] at hD
                obtain ⟨hd0, hd1, hd2⟩ := hD
                go_simp
                exact hK _ _ (Grew.refl _) rfl
              · have hG : Grew wr wx := (Grew.drew _).trans hR
                exfalso
                simp [Deps, Dep, at_, Is] at hD
                simp_all
              refine ⟨fun a_ wx hR hD => ⟨fun hgd K hK => ?_, fun hgd => ?_⟩, ?_⟩
              · have hG : Grew wr wx := (Grew.drew _).trans hR
                clear hgd
                simp [Deps, Dep, at_, Is] at hD
                obtain ⟨hd0, hd1, hd2⟩ := hD
                go_simp
                exact hK _ _ (Grew.refl _) rfl
              · have hG : Grew wr wx := (Grew.drew _).trans hR
                exfalso
                simp [Deps, Dep, at_, Is] at hD
                simp_all
              refine ⟨fun a_ wx hR hD K hK => ?_, ?_⟩
              · have hG : Grew wr wx := (Grew.drew _).trans hR
                simp [Deps, Dep, at_, Is] at hD
                obtain ⟨hd0, hd1⟩ := hD
                go_simp
                exact hK _ _ (Grew.refl _) rfl
              refine ⟨fun a_ wx hR hD K hK => ?_, ?_⟩
              · have hG : Grew wr wx := (Grew.drew _).trans hR
                simp [Deps, Dep, at_, Is] at hD
                go_simp
                exact hK _ _ (Grew.refl _) rfl
              refine ⟨fun a_ wx hR hD => ⟨fun hgd K hK => ?_, fun hgd => ?_⟩, ?_⟩
              · have hG : Grew wr wx := (Grew.drew _).trans hR
                clear hgd
                simp [Deps, Dep, at_, Is] at hD
                obtain ⟨hd0, hd1⟩ := hD
                go_simp
                exact hK _ _ (Grew.refl _) rfl
              · have hG : Grew wr wx := (Grew.drew _).trans hR
                exfalso
                simp [Deps, Dep, at_, Is] at hD
                simp_all
              refine ⟨fun a_ wx hR hD => ⟨fun hgd K hK => ?_, fun hgd => ?_⟩, ?_⟩
              · have hG : Grew wr wx := (Grew.drew _).trans hR
                clear hgd
                simp [Deps, Dep, at_, Is] at hD
                obtain ⟨hd0, hd1⟩ := hD
                go_simp
                exact hK _ _ (Grew.refl _) rfl
              · have hG : Grew wr wx := (Grew.drew _).trans hR
                exfalso
                simp [Deps, Dep, at_, Is] at hD
                simp_all
              trivial
            · show EndHold _ _ _ _ _ _ _
              refine end_all (xs := [_, _, _, _, _, _, _, _, _, _, _, _, _, _, _, _, _, _, _, _, _, _, _, _, _, _, _, _]) ⟨rfl, rfl, rfl, rfl, rfl, rfl, rfl, rfl, rfl, rfl, rfl, rfl, rfl, rfl, rfl, rfl, rfl, rfl, rfl, rfl, rfl, rfl, rfl, rfl, rfl, rfl, rfl, rfl, trivial⟩ ?_
              rintro w2 hR1 -
              refine ⟨?_⟩
              have hG_w2 : Grew wr w2 := (Grew.drew _).trans hR1
              clear hR1
              simp only [Act.put, List.setIfInBounds_toArray, List.set_cons_succ, List.set_cons_zero, dropN, putEach]
              have hcell2 := pw_cell_below hG_w2 HCell.out
              go_wp2_with fail
              go_roundw
              case rel => exact ⟨pre ++ [c], suf, by rw [HP.out]; simp, by simp, by simp, hgr.trans hG_w2⟩
              case measure => simp [intOf]; omega
    · have HC := Lib.hid (fun w => cut_no t lo hi bits w hm)
      have hmy := fun w => lmay_c lo hi bits w
      rw [decide_eq_false hm] at hmy
      have HMy := Lib.hid hmy
      clear hm hmy
      go_enter Try.func4, Try.ntmps4
      go_wp2_with fail
      refine (HC.out _).mono ?_
      rintro e w1 ⟨_, rfl, rfl, hg1⟩
      have hb1 := HB0.out.grew hg1
      have k0 := hb1.at_ 0
      have k1 := hb1.at_ 1
      have k2 := hb1.at_ 2
      simp only [List.getElem?_cons_succ, List.getElem?_cons_zero] at k0 k1 k2
      go_wp2_with fail
      refine (HMy.out _).mono ?_
      rintro e w3 ⟨_, rfl, rfl, hg3⟩
      go_wp2_with fail
      refine (lives_c _).mono ?_
      rintro e w6 ⟨_, rfl, rfl, hg6⟩
      go_wp2
      go_ret
      exact ⟨_, rfl, rfl, (Grew.alloc _ _).trans (hg1.trans (hg3.trans hg6))⟩
end Go.Proofs.Ytaeobiilihklhaa.F
