/- The row of the law LinkPackets: for every input the law's call returns true, whatever memory; no condition. Out of the contract LinkPackets_c. -/
import Derived.Test.YteaefambkagpbaaSC
import Derived.Test.YteaefambkagpbaaWEqStruct
import Derived.Test.YteaefambkagpbaaWArr
import Derived.SizedLaws
import Derived.ChangeSlices
import Derived.WideKeyArr2
import Derived.WalkKit
import Derived.ProofKit
import Derived.OpenShut
import Derived.Test.YteaefambkagpbaaRows
import Derived.ShutString
import Derived.ChangeOld
import Derived.Below
import Derived.Test.YteaefambkagpbaaWSized
import Derived.Lib.SmallJoins

-- LinkPackets
namespace Go.Proofs.Yteaefambkagpbaa.F
open Go Go.RowKit Go.Proofs.YteaefambkagpbaaW.PrintWords Go.Proofs.YteaefambkagpbaaW.PrintLast Go.Proofs.YteaefambkagpbaaW.PrintMore Go.Proofs.YteaefambkagpbaaM Go.Proofs.YteaefambkagpbaaR
attribute [local go_sem] max2_int min2_int max_two min_two
set_option linter.unusedSimpArgs false
set_option linter.unusedVariables false
set_option maxRecDepth 100000
attribute [local simp] undef_ne undef_ne'
theorem wf_i64 {x : Int} (h : (Lit.int .i64 x).wf = true) : -9223372036854775808 ≤ x ∧ x ≤ 9223372036854775807 := by
  simp [Lit.wf, IntKind.min, IntKind.max, IntKind.bits, IntKind.signed] at h
  exact h
theorem eqPkA (d : Nat) (w : World) (x0 y0 : Bool) (x1 y1 : Int) (x2 y2 : Bool) (x3 y3 : ByteArray) (x4 y4 : Int) :
    (Op.equalIn (d + 2) 30 (.agg #[.bool x0, .int .i64 x1, .bool x2, .string x3, .int .i64 x4]) (.agg #[.bool y0, .int .i64 y1, .bool y2, .string y3, .int .i64 y4])).run Try.prog w = .ok (x0 == y0 && (x1 == y1 && (x2 == y2 && (x3.toList == y3.toList && (x4 == y4))))) w := by
  refine eqA_of Try.underlying30 (by kernel_rfl) ?_
  refine eqf_cons (by rfl) (by go_simp; rfl) (by go_simp; rfl) (by go_simp) ?_
  refine eqf_cons (by rfl) (by go_simp; rfl) (by go_simp; rfl) (by go_simp) ?_
  refine eqf_cons (by rfl) (by go_simp; rfl) (by go_simp; rfl) (by go_simp) ?_
  refine eqf_cons (by rfl) (by go_simp; rfl) (by go_simp; rfl) (by go_simp) ?_
  exact eqf_last (by rfl) (by go_simp; rfl) (by go_simp; rfl) (by go_simp)
theorem eqPkB (d : Nat) (w : World) (x0 y0 : Bool) (x1 y1 : Int) (x2 y2 : Bool) (x3 y3 : ByteArray) (x4 y4 : Int) :
    (Op.equalIn (d + 2) 23 (.agg #[.bool x0, .int .i64 x1, .bool x2, .string x3, .int .i64 x4]) (.agg #[.bool y0, .int .i64 y1, .bool y2, .string y3, .int .i64 y4])).run Try.prog w = .ok (x0 == y0 && (x1 == y1 && (x2 == y2 && (x3.toList == y3.toList && (x4 == y4))))) w := by
  refine eqA_of Try.underlying23 (by kernel_rfl) ?_
  refine eqf_cons (by rfl) (by go_simp; rfl) (by go_simp; rfl) (by go_simp) ?_
  refine eqf_cons (by rfl) (by go_simp; rfl) (by go_simp; rfl) (by go_simp) ?_
  refine eqf_cons (by rfl) (by go_simp; rfl) (by go_simp; rfl) (by go_simp) ?_
  refine eqf_cons (by rfl) (by go_simp; rfl) (by go_simp; rfl) (by go_simp) ?_
  exact eqf_last (by rfl) (by go_simp; rfl) (by go_simp; rfl) (by go_simp)
theorem encP_len (p : Pk) (h : rightP p = true) : (encP p).length ≤ 1000 := by
  obtain ⟨h0, h1, h2, h3⟩ := rightR h
  have hpl := putL_ten (n := p.n.toNat) (by omega)
  unfold encP
  cases hr : p.r with
  | true =>
    have := h2 hr
    have hb := putL_ten (n := p.b.toNat) (by omega)
    simp; omega
  | false =>
    have := h3 hr
    have hb := putL_ten (n := p.d.size) (by omega)
    simp [textL, bytesOf_length]; omega
theorem encP_bytes (p : Pk) : ∀ x ∈ encP p, 0 ≤ x ∧ x < 256 := by
  intro x hx
  unfold encP at hx
  rcases List.mem_cons.1 hx with rfl | hx
  · unfold kindP; split; simp; split <;> simp
  · rcases List.mem_append.1 hx with hx | hx
    · exact putL_bytes _ x hx
    · split at hx
      · exact putL_bytes _ x hx
      · unfold textL at hx
        rcases List.mem_append.1 hx with hx | hx
        · exact putL_bytes _ x hx
        · exact bytesOf_byte _ x hx
set_option maxHeartbeats 8000000 in
/-- the rest of the law, from what Decode makes of any bytes -/
theorem LinkPackets_c (w : World) (r : Bool) (n : Int) (z : Bool) (d : ByteArray) (b : Int) (A : Option Addr) (c : Nat) (l : List Int) (ok0 : True) (ok1 : (Lit.int .i64 n).wf = true) (ok2 : True) (ok3 : d.size ≤ 140737488351232) (ok4 : (Lit.int .i64 b).wf = true)
    (hr : Kd.C (Kd.int .u8) w A l.length l) (hc : l.length ≤ c) (hm : l.length ≤ maxLen) (hy : l.length * 1 ≤ 140737488351232) (hw : ∀ x ∈ l, (Lit.int .u8 x).wf = true) :
    Calls Try.prog 3 #[.agg #[.bool r, .int .i64 n, .bool z, .string d, .int .i64 b], .slice A l.length c] w (Tells w (Is (.bool true))) := by
  have hb0 : -9223372036854775808 ≤ b := (wf_i64 ok4).1
  have hbl := bytes_of hw
  have HR := Lib.hid (fun w' (h : Grew w w') => Kd.C_below hr h)
  have HBY := Lib.hid hbl
  have HDR := Lib.hid (fun w' (h : Grew w w') => decode_c A c l w' (Kd.C_below hr h) hc (by omega) hbl)
  have HCV := Lib.hid (fun w' (h : Grew w w') => Kd.C_string (P := Try.prog) (c := c) Try.underlying24 Try.underlying5 Try.underlying9 (Kd.C_below hr h))
  obtain ⟨q, hq⟩ : ∃ q, q = l.length := ⟨_, rfl⟩
  obtain ⟨ds, hds⟩ : ∃ ds, ds = d.size := ⟨_, rfl⟩
  have hds' := hds.symm
  rw [← hq] at hc HDR HCV ⊢
  have HW0 := Lib.hid (Blk.new w 23 [.bool r, .int .i64 n, .bool z, .string d, .int .i64 b])
  by_cases hgo : ds ≤ 1000 ∧ q ≤ 2000
  · obtain ⟨g1, g2⟩ := hgo
    have d1 : decide (1000 < ds) = false := decide_eq_false (by omega)
    have d1' : decide (1000 < (ds : Int)) = false := decide_eq_false (by omega)
    have d2 : decide (2000 < q) = false := decide_eq_false (by omega)
    have d2' : decide (2000 < (q : Int)) = false := decide_eq_false (by omega)
    obtain ⟨p, hp⟩ : ∃ p : Pk, p = ⟨r, n, z, d, b⟩ := ⟨_, rfl⟩
    have HMI := Lib.hid (show ∀ w, Calls Try.prog 10 #[.agg #[.bool r, .int .i64 n, .bool z, .string d, .int .i64 b]] w (Tells w (Is (.agg #[.bool r, .int .i64 n, .bool z, .string d, .int .i64 b]))) from fun w => mine_c ⟨r, n, z, d, b⟩ w)
    have HTH := Lib.hid (show ∀ (r : Bool) (n : Int) (z : Bool) (d : ByteArray) (b : Int) w, Calls Try.prog 14 #[.agg #[.bool r, .int .i64 n, .bool z, .string d, .int .i64 b]] w (Tells w (Is (.agg #[.bool r, .int .i64 n, .bool z, .string d, .int .i64 b]))) from fun r n z d b w => theirs_c ⟨r, n, z, d, b⟩ w)
    have HRG := Lib.hid (show ∀ w, Calls Try.prog 11 #[.agg #[.bool r, .int .i64 n, .bool z, .string d, .int .i64 b]] w (Tells w (Is (.bool (rightP p)))) from fun w => by rw [hp]; exact right_c ⟨r, n, z, d, b⟩ hb0 w)
    have HRR := Lib.hid (show ∀ w, Calls Try.prog 8 #[.agg #[.bool r, .int .i64 n, .bool z, .string d, .int .i64 b]] w (Tells w (Is (.bool (rightP p)))) from fun w => by rw [hp]; exact rright_c ⟨r, n, z, d, b⟩ w)
    have HEN := Lib.hid (show ∀ w, Calls Try.prog 9 #[.agg #[.bool r, .int .i64 n, .bool z, .string d, .int .i64 b]] w (Tells w (EncR (encRes p).1 (encRes p).2)) from fun w => by rw [hp]; exact encode_c ⟨r, n, z, d, b⟩ hb0 w)
    have HRE := Lib.hid (show rightP p = true → ∀ w, Calls Try.prog 12 #[.agg #[.bool r, .int .i64 n, .bool z, .string d, .int .i64 b]] w (Tells w (Is (.string (strOfNums (encP p))))) from fun h w => by rw [hp] at h ⊢; exact rencode_c ⟨r, n, z, d, b⟩ h w)
    have HP := Lib.hid hp
    clear hr hm hy hw hbl hq hds hp ok0 ok1 ok2 ok3 ok4 hb0
    obtain ⟨g, hg⟩ : ∃ g, g = w.heap.size := ⟨_, rfl⟩
    obtain ⟨W0, hW0⟩ : ∃ W0, W0 = w.alloc (.cells #[.bool r, .int .i64 n, .bool z, .string d, .int .i64 b] 23) := ⟨_, rfl⟩
    have hb0 : Blk W0 g 23 [.bool r, .int .i64 n, .bool z, .string d, .int .i64 b] := by rw [hW0, hg]; exact HW0.out
    have hgw : Grew w W0 := by rw [hW0]; exact Grew.alloc _ _
    have HG0 := Lib.hid hgw
    have HB0 := Lib.hid (fun wx (h : Grew W0 wx) => hb0.grew h)
    have CB := Lib.hid (show ∀ wx, Grew W0 wx → (wx.cell? ⟨g, 0, none⟩ = some (.bool r) ∧ wx.cell? ⟨g, 1, none⟩ = some (.int .i64 n) ∧ wx.cell? ⟨g, 2, none⟩ = some (.bool z) ∧ wx.cell? ⟨g, 3, none⟩ = some (.string d) ∧ wx.cell? ⟨g, 4, none⟩ = some (.int .i64 b)) from fun wx h => ⟨by rw [(hb0.grew h).at_]; rfl, by rw [(hb0.grew h).at_]; rfl, by rw [(hb0.grew h).at_]; rfl, by rw [(hb0.grew h).at_]; rfl, by rw [(hb0.grew h).at_]; rfl⟩)
    have HWE := Lib.hid hW0
    have HGE := Lib.hid hg
    clear hb0 hgw hW0 hg HW0
    obtain ⟨rt, hrt⟩ : ∃ rt, rightP p = rt := ⟨_, rfl⟩
    rw [hrt] at HRG HRR HRE
    have HRT := Lib.hid hrt
    clear hrt
    go_enter Try.func3, Try.ntmps3
    go_wp2_with fail
    rw [← HWE.out]
    rw [← HGE.out]
    refine (HRR.out W0).mono ?_
    rintro e w1 ⟨_, rfl, rfl, hg1⟩
    obtain ⟨k0, k1, k2, k3, k4⟩ := CB.out w1 hg1
    go_wp2_with fail
    refine (HMI.out w1).mono ?_
    rintro e w2 ⟨_, rfl, rfl, hg2⟩
    have hg2' := Grew.trans hg1 hg2
    clear k0 k1 k2 k3 k4
    go_wp2_with fail
    refine (HEN.out w2).mono ?_
    rintro e w3 ⟨_, rfl, ⟨A6, c6, rfl, hc6, hC6⟩, hg3⟩
    have hg3' := Grew.trans hg2' hg3
    clear hg1 hg2 hg3 hg2'
    cases rt with
    | false =>
      have he : encRes p = ([], 1) := by unfold encRes; rw [HRT.out]; rfl
      rw [he] at hC6 hc6 ⊢
      clear he hC6 hc6
      go_wp2_with fail
      apply region_grew [Is _, Is _, Is _, Is _, Is _, Is _, Is _, Is _, Is _, Is _, Is _, Is _, Is _, Is _, Is undef, Is undef, Is undef, Is undef] [([(2, none)], none), ([(30, some 0)], none), ([(31, some 1)], none), ([(5, none)], none), ([(32, some 2), (33, some 3)], none), ([(34, some 4)], none), ([(5, none), (35, some 5)], some (35, false)), ([(7, none), (35, some 5)], some (35, false)), ([(37, some 7), (35, some 5)], some (35, false)), ([(36, some 6), (38, some 8), (35, some 5)], some (35, false)), ([(35, some 5), (39, some 9)], none), ([(40, some 10)], none), ([(5, none), (41, some 11)], some (41, false)), ([(42, some 12), (41, some 11)], some (41, false)), ([(6, none), (43, some 13)], some (43, true)), ([(44, some 14), (43, some 13)], some (43, true)), ([(2, none), (43, some 13)], some (43, true)), ([(46, some 16), (43, some 13)], some (43, true))] [(30, 0), (31, 1), (32, 2), (33, 3), (34, 4), (35, 5), (36, 6), (37, 7), (38, 8), (39, 9), (40, 10), (41, 11), (42, 12), (43, 13), (44, 14), (45, 15), (46, 16), (47, 17)] rfl (by kernel_rfl) (by kernel_rfl) (show Stable Grew _ from ⟨Is.stable _, Is.stable _, Is.stable _, Is.stable _, Is.stable _, Is.stable _, Is.stable _, Is.stable _, Is.stable _, Is.stable _, Is.stable _, Is.stable _, Is.stable _, Is.stable _, Is.stable _, Is.stable _, Is.stable _, Is.stable _, trivial⟩)
      · show OpsHold _ _ _ _ _ _ _ _ _
        refine ⟨fun a_ wx hR hD K hK => ?_, ?_⟩
        · have hG : Grew w3 wx := (Grew.drew _).trans hR
          simp [Deps, Dep, at_, Is] at hD
          obtain ⟨e0, e1, e2, e3, e4⟩ := CB.out wx (Grew.trans hg3' hG)
          go_simp
          exact hK _ _ (Grew.refl _) rfl
        refine ⟨fun a_ wx hR hD K hK => ?_, ?_⟩
        · have hG : Grew w3 wx := (Grew.drew _).trans hR
          simp [Deps, Dep, at_, Is] at hD
          go_simp
          have hcn := HMI.out wx
          with_reducible refine hcn.mono ?_
          clear hcn
          rintro e wy ⟨v, rfl, hv, hg⟩
          exact hK _ _ hg hv
        refine ⟨fun a_ wx hR hD K hK => ?_, ?_⟩
        · have hG : Grew w3 wx := (Grew.drew _).trans hR
          simp [Deps, Dep, at_, Is] at hD
          go_simp
          have hcn := HRG.out wx
          with_reducible refine hcn.mono ?_
          clear hcn
          rintro e wy ⟨v, rfl, hv, hg⟩
          exact hK _ _ hg hv
        refine ⟨fun a_ wx hR hD K hK => ?_, ?_⟩
        · have hG : Grew w3 wx := (Grew.drew _).trans hR
          simp [Deps, Dep, at_, Is] at hD
          go_simp
          exact hK _ _ (Grew.refl _) rfl
        refine ⟨fun a_ wx hR hD K hK => ?_, ?_⟩
        · have hG : Grew w3 wx := (Grew.drew _).trans hR
          simp [Deps, Dep, at_, Is] at hD
          obtain ⟨hd0, hd1⟩ := hD
          go_simp
          exact hK _ _ (Grew.refl _) rfl
        refine ⟨fun a_ wx hR hD K hK => ?_, ?_⟩
        · have hG : Grew w3 wx := (Grew.drew _).trans hR
          simp [Deps, Dep, at_, Is] at hD
          go_simp
          exact hK _ _ (Grew.refl _) rfl
        refine ⟨fun a_ wx hR hD => ⟨fun hgd K hK => ?_, fun hgd => ?_⟩, ?_⟩
        · have hG : Grew w3 wx := (Grew.drew _).trans hR
          clear hgd
          simp [Deps, Dep, at_, Is] at hD
          obtain ⟨hd0, hd1⟩ := hD
          go_simp
          exact hK _ _ (Grew.refl _) rfl
        · have hG : Grew w3 wx := (Grew.drew _).trans hR
          exfalso
          simp [Deps, Dep, at_, Is] at hD
          simp_all
        refine ⟨fun a_ wx hR hD => ⟨fun hgd K hK => ?_, fun hgd => ?_⟩, ?_⟩
        · have hG : Grew w3 wx := (Grew.drew _).trans hR
          clear hgd
          simp [Deps, Dep, at_, Is] at hD
          obtain ⟨hd0, hd1⟩ := hD
          go_simp
          exact hK _ _ (Grew.refl _) rfl
        · have hG : Grew w3 wx := (Grew.drew _).trans hR
          exfalso
          simp [Deps, Dep, at_, Is] at hD
          simp_all
        refine ⟨fun a_ wx hR hD => ⟨fun hgd K hK => ?_, fun hgd => ?_⟩, ?_⟩
        · have hG : Grew w3 wx := (Grew.drew _).trans hR
          clear hgd
          simp [Deps, Dep, at_, Is] at hD
          obtain ⟨hd0, hd1⟩ := hD
          go_simp
          exact hK _ _ (Grew.refl _) rfl
        · have hG : Grew w3 wx := (Grew.drew _).trans hR
          exfalso
          simp [Deps, Dep, at_, Is] at hD
          simp_all
        refine ⟨fun a_ wx hR hD => ⟨fun hgd K hK => ?_, fun hgd => ?_⟩, ?_⟩
        · have hG : Grew w3 wx := (Grew.drew _).trans hR
          clear hgd
          simp [Deps, Dep, at_, Is] at hD
          obtain ⟨hd0, hd1, hd2⟩ := hD
          go_simp
          exact hK _ _ (Grew.refl _) rfl
        · have hG : Grew w3 wx := (Grew.drew _).trans hR
          exfalso
          simp [Deps, Dep, at_, Is] at hD
          simp_all
        refine ⟨fun a_ wx hR hD K hK => ?_, ?_⟩
        · have hG : Grew w3 wx := (Grew.drew _).trans hR
          simp [Deps, Dep, at_, Is] at hD
          obtain ⟨hd0, hd1⟩ := hD
          go_simp
          exact hK _ _ (Grew.refl _) rfl
        refine ⟨fun a_ wx hR hD K hK => ?_, ?_⟩
        · have hG : Grew w3 wx := (Grew.drew _).trans hR
          simp [Deps, Dep, at_, Is] at hD
          go_simp
          exact hK _ _ (Grew.refl _) rfl
        refine ⟨fun a_ wx hR hD => ⟨fun hgd K hK => ?_, fun hgd => ?_⟩, ?_⟩
        · have hG : Grew w3 wx := (Grew.drew _).trans hR
          clear hgd
          simp [Deps, Dep, at_, Is] at hD
          obtain ⟨hd0, hd1⟩ := hD
          go_simp
          exact hK _ _ (Grew.refl _) rfl
        · have hG : Grew w3 wx := (Grew.drew _).trans hR
          exfalso
          simp [Deps, Dep, at_, Is] at hD
          simp_all
        refine ⟨fun a_ wx hR hD => ⟨fun hgd K hK => ?_, fun hgd => ?_⟩, ?_⟩
        · have hG : Grew w3 wx := (Grew.drew _).trans hR
          clear hgd
          simp [Deps, Dep, at_, Is] at hD
          obtain ⟨hd0, hd1⟩ := hD
          go_simp
          exact hK _ _ (Grew.refl _) rfl
        · have hG : Grew w3 wx := (Grew.drew _).trans hR
          exfalso
          simp [Deps, Dep, at_, Is] at hD
          simp_all
        refine ⟨fun a_ wx hR hD => ⟨fun hgd K hK => ?_, fun hgd => ?_⟩, ?_⟩
        · have hG : Grew w3 wx := (Grew.drew _).trans hR
          exfalso
          simp [Deps, Dep, at_, Is] at hD
          simp_all
        · exact rfl
        refine ⟨fun a_ wx hR hD => ⟨fun hgd K hK => ?_, fun hgd => ?_⟩, ?_⟩
        · have hG : Grew w3 wx := (Grew.drew _).trans hR
          exfalso
          simp [Deps, Dep, at_, Is] at hD
          simp_all
        · exact rfl
        refine ⟨fun a_ wx hR hD => ⟨fun hgd K hK => ?_, fun hgd => ?_⟩, ?_⟩
        · have hG : Grew w3 wx := (Grew.drew _).trans hR
          exfalso
          simp [Deps, Dep, at_, Is] at hD
          simp_all
        · exact rfl
        refine ⟨fun a_ wx hR hD => ⟨fun hgd K hK => ?_, fun hgd => ?_⟩, ?_⟩
        · have hG : Grew w3 wx := (Grew.drew _).trans hR
          exfalso
          simp [Deps, Dep, at_, Is] at hD
          simp_all
        · exact rfl
        trivial
      · show EndHold _ _ _ _ _ _ _
        refine end_all (xs := [_, _, _, _, _, _, _, _, _, _, _, _, _, _, _, _, _, _]) ⟨rfl, rfl, rfl, rfl, rfl, rfl, rfl, rfl, rfl, rfl, rfl, rfl, rfl, rfl, rfl, rfl, rfl, rfl, trivial⟩ ?_
        rintro w4 hR1 -
        refine ⟨?_⟩
        have hG_w4 : Grew w3 w4 := (Grew.drew _).trans hR1
        clear hR1
        simp only [Act.put, List.setIfInBounds_toArray, List.set_cons_succ, List.set_cons_zero, dropN, putEach]
        have hg4 := Grew.trans hg3' hG_w4
        go_wp2_with fail
        refine (HDR.out _ (Grew.trans HG0.out hg4)).mono ?_
        rintro e wa ⟨_, rfl, rfl, hga⟩
        have hga' := Grew.trans hg4 hga
        obtain ⟨o, ho⟩ : ∃ o, decP l = o := ⟨_, rfl⟩
        have HO := Lib.hid ho
        cases o with
        | none =>
          have hres : decRes l = .tuple #[.agg #[.bool false, .int .i64 0, .bool false, .string ⟨#[]⟩, .int .i64 0], .int .i64 4] := by unfold decRes; rw [ho]; rfl
          rw [hres]
          clear hres ho
          have HEQ := Lib.hid (fun w' => show (Op.equalIn 10000 30 (.agg #[.bool false, .int .i64 0, .bool false, .string ⟨#[]⟩, .int .i64 0]) (.agg #[.bool false, .int .i64 0, .bool false, .string ⟨#[]⟩, .int .i64 0])).run Try.prog w' = .ok true w' from by
            have h := eqPkA 9998 w' false false 0 0 false false ⟨#[]⟩ ⟨#[]⟩ 0 0
            simpa using h)
          have heq := HEQ.out
          go_wp2_with fail
          refine (lives_c _).mono ?_
          rintro e wb ⟨_, rfl, rfl, hgb⟩
          go_wp2_with fail
          go_ret
          exact ⟨_, rfl, rfl, Grew.trans HG0.out (Grew.trans (Grew.trans hga' (Grew.alloc _ _)) hgb)⟩
        | some x =>
          obtain ⟨hx1, hx2⟩ := enc_dec HBY.out ho
          obtain ⟨x0, x1, x2, x3, x4⟩ := x
          have hres : decRes l = .tuple #[.agg #[.bool x0, .int .i64 x1, .bool x2, .string x3, .int .i64 x4], .int .i64 0] := by unfold decRes; rw [ho]; rfl
          rw [hres]
          obtain ⟨SL, hSL⟩ : ∃ SL, SL = strOfNums l := ⟨_, rfl⟩
          have HR2 := Lib.hid (show ∀ w, Calls Try.prog 8 #[.agg #[.bool x0, .int .i64 x1, .bool x2, .string x3, .int .i64 x4]] w (Tells w (Is (.bool true))) from fun w => by have := rright_c ⟨x0, x1, x2, x3, x4⟩ w; rw [hx1] at this; exact this)
          have HE2 := Lib.hid (show ∀ w, Calls Try.prog 12 #[.agg #[.bool x0, .int .i64 x1, .bool x2, .string x3, .int .i64 x4]] w (Tells w (Is (.string SL))) from fun w => by have := rencode_c ⟨x0, x1, x2, x3, x4⟩ hx1 w; rw [hx2, ← hSL] at this; exact this)
          have HCV2 := Lib.hid (fun w' (h : Grew W0 w') => HCV.out w' (Grew.trans HG0.out h))
          rw [← hSL] at HCV2
          clear hres ho hx1 hx2 hSL
          obtain ⟨ga, hgae⟩ : ∃ ga, ga = wa.heap.size := ⟨_, rfl⟩
          obtain ⟨Wa, hWa⟩ : ∃ Wa, Wa = wa.alloc (.cells #[.bool x0, .int .i64 x1, .bool x2, .string x3, .int .i64 x4] 30) := ⟨_, rfl⟩
          have hba : Blk Wa ga 30 [.bool x0, .int .i64 x1, .bool x2, .string x3, .int .i64 x4] := by rw [hWa, hgae]; exact Blk.new _ _ _
          have CA := Lib.hid (show ∀ wx, Grew Wa wx → (wx.cell? ⟨ga, 0, none⟩ = some (.bool x0) ∧ wx.cell? ⟨ga, 1, none⟩ = some (.int .i64 x1) ∧ wx.cell? ⟨ga, 2, none⟩ = some (.bool x2) ∧ wx.cell? ⟨ga, 3, none⟩ = some (.string x3) ∧ wx.cell? ⟨ga, 4, none⟩ = some (.int .i64 x4)) from fun wx h => ⟨by rw [(hba.grew h).at_]; rfl, by rw [(hba.grew h).at_]; rfl, by rw [(hba.grew h).at_]; rfl, by rw [(hba.grew h).at_]; rfl, by rw [(hba.grew h).at_]; rfl⟩)
          have hgWa : Grew W0 Wa := by rw [hWa]; exact Grew.trans hga' (Grew.alloc _ _)
          have HWA := Lib.hid hWa
          have HGA := Lib.hid hgae
          clear hba hWa hgae
          go_wp2_with fail
          rw [← HWA.out]
          rw [← HGA.out]
          apply region_grew [Is _, Is _, Is _, Is _, Is _, Is _, Is _, Is _, Is _] [([(10, none)], none), ([(95, some 0)], none), ([(96, some 1)], none), ([(97, some 2)], none), ([(10, none), (98, some 3)], some (98, true)), ([(99, some 4), (98, some 3)], some (98, true)), ([(100, some 5), (98, some 3)], some (98, true)), ([(1, none), (98, some 3)], some (98, true)), ([(102, some 7), (98, some 3)], some (98, true))] [(95, 0), (96, 1), (97, 2), (98, 3), (99, 4), (100, 5), (101, 6), (102, 7), (103, 8)] rfl (by kernel_rfl) (by kernel_rfl) (show Stable Grew _ from ⟨Is.stable _, Is.stable _, Is.stable _, Is.stable _, Is.stable _, Is.stable _, Is.stable _, Is.stable _, Is.stable _, trivial⟩)
          · show OpsHold _ _ _ _ _ _ _ _ _
            refine ⟨fun a_ wx hR hD K hK => ?_, ?_⟩
            · have hG : Grew Wa wx := (Grew.drew _).trans hR
              simp [Deps, Dep, at_, Is] at hD
              obtain ⟨e0, e1, e2, e3, e4⟩ := CA.out wx hG
              go_simp
              exact hK _ _ (Grew.refl _) rfl
            refine ⟨fun a_ wx hR hD K hK => ?_, ?_⟩
            · have hG : Grew Wa wx := (Grew.drew _).trans hR
              simp [Deps, Dep, at_, Is] at hD
              go_simp
              have hcn := HTH.out x0 x1 x2 x3 x4 wx
              with_reducible refine hcn.mono ?_
              clear hcn
              rintro e wy ⟨v, rfl, hv, hg⟩
              exact hK _ _ hg hv
            refine ⟨fun a_ wx hR hD K hK => ?_, ?_⟩
            · have hG : Grew Wa wx := (Grew.drew _).trans hR
              simp [Deps, Dep, at_, Is] at hD
              go_simp
              have hcn := HR2.out wx
              with_reducible refine hcn.mono ?_
              clear hcn
              rintro e wy ⟨v, rfl, hv, hg⟩
              exact hK _ _ hg hv
            refine ⟨fun a_ wx hR hD K hK => ?_, ?_⟩
            · have hG : Grew Wa wx := (Grew.drew _).trans hR
              simp [Deps, Dep, at_, Is] at hD
              go_simp
              exact hK _ _ (Grew.refl _) rfl
            refine ⟨fun a_ wx hR hD => ⟨fun hgd K hK => ?_, fun hgd => ?_⟩, ?_⟩
            · have hG : Grew Wa wx := (Grew.drew _).trans hR
              clear hgd
              simp [Deps, Dep, at_, Is] at hD
              obtain ⟨e0, e1, e2, e3, e4⟩ := CA.out wx hG
              go_simp
              exact hK _ _ (Grew.refl _) rfl
            · have hG : Grew Wa wx := (Grew.drew _).trans hR
              exfalso
              simp [Deps, Dep, at_, Is] at hD
              simp_all
            refine ⟨fun a_ wx hR hD => ⟨fun hgd K hK => ?_, fun hgd => ?_⟩, ?_⟩
            · have hG : Grew Wa wx := (Grew.drew _).trans hR
              clear hgd
              simp [Deps, Dep, at_, Is] at hD
              obtain ⟨hd0, hd1⟩ := hD
              go_simp
              have hcn := HTH.out x0 x1 x2 x3 x4 wx
              with_reducible refine hcn.mono ?_
              clear hcn
              rintro e wy ⟨v, rfl, hv, hg⟩
              exact hK _ _ hg hv
            · have hG : Grew Wa wx := (Grew.drew _).trans hR
              exfalso
              simp [Deps, Dep, at_, Is] at hD
              simp_all
            refine ⟨fun a_ wx hR hD => ⟨fun hgd K hK => ?_, fun hgd => ?_⟩, ?_⟩
            · have hG : Grew Wa wx := (Grew.drew _).trans hR
              clear hgd
              simp [Deps, Dep, at_, Is] at hD
              obtain ⟨hd0, hd1⟩ := hD
              go_simp
              have hcn := HE2.out wx
              with_reducible refine hcn.mono ?_
              clear hcn
              rintro e wy ⟨v, rfl, hv, hg⟩
              exact hK _ _ hg hv
            · have hG : Grew Wa wx := (Grew.drew _).trans hR
              exfalso
              simp [Deps, Dep, at_, Is] at hD
              simp_all
            refine ⟨fun a_ wx hR hD => ⟨fun hgd K hK => ?_, fun hgd => ?_⟩, ?_⟩
            · have hG : Grew Wa wx := (Grew.drew _).trans hR
              clear hgd
              simp [Deps, Dep, at_, Is] at hD
              obtain ⟨hd0, hd1⟩ := hD
              go_simp
              exact hK _ _ (Grew.refl _) rfl
            · have hG : Grew Wa wx := (Grew.drew _).trans hR
              exfalso
              simp [Deps, Dep, at_, Is] at hD
              simp_all
            refine ⟨fun a_ wx hR hD => ⟨fun hgd K hK => ?_, fun hgd => ?_⟩, ?_⟩
            · have hG : Grew Wa wx := (Grew.drew _).trans hR
              clear hgd
              simp [Deps, Dep, at_, Is] at hD
              obtain ⟨hd0, hd1⟩ := hD
              have e_ := HCV2.out wx (Grew.trans hgWa hG)
              go_simp
              exact hK _ _ (Grew.refl _) rfl
            · have hG : Grew Wa wx := (Grew.drew _).trans hR
              exfalso
              simp [Deps, Dep, at_, Is] at hD
              simp_all
            trivial
          · show EndHold _ _ _ _ _ _ _
            refine end_all (xs := [_, _, _, _, _, _, _, _, _]) ⟨rfl, rfl, rfl, rfl, rfl, rfl, rfl, rfl, rfl, trivial⟩ ?_
            rintro wb hR1 -
            refine ⟨?_⟩
            have hG_wb : Grew Wa wb := (Grew.drew _).trans hR1
            clear hR1
            simp only [Act.put, List.setIfInBounds_toArray, List.set_cons_succ, List.set_cons_zero, dropN, putEach]
            go_wp2_with fail
            refine (lives_c wb).mono ?_
            rintro e wc ⟨_, rfl, rfl, hgc⟩
            go_wp2_with fail
            go_ret
            exact ⟨_, rfl, rfl, Grew.trans HG0.out (Grew.trans (Grew.trans hgWa hG_wb) hgc)⟩
    | true =>
      have he : encRes p = (encP p, 0) := by unfold encRes; rw [HRT.out]; rfl
      rw [he] at hC6 hc6 ⊢
      have hel := encP_len p HRT.out
      have heb := encP_bytes p
      obtain ⟨S, hS⟩ : ∃ S, S = strOfNums (encP p) := ⟨_, rfl⟩
      have HRE2 := Lib.hid (HRE.out rfl)
      rw [← hS] at HRE2
      have HDE := Lib.hid (fun w' (h : Grew w3 w') => decode_c A6 c6 (encP p) w' (Kd.C_below hC6 h) hc6 (by omega) heb)
      have hdr : decRes (encP p) = .tuple #[.agg #[.bool r, .int .i64 n, .bool z, .string d, .int .i64 b], .int .i64 0] := by
        unfold decRes
        rw [dec_enc p HRT.out, HP.out]
        rfl
      rw [hdr] at HDE
      have HCE := Lib.hid (fun w' (h : Grew w3 w') => Kd.C_string (P := Try.prog) (c := c6) Try.underlying24 Try.underlying5 Try.underlying9 (Kd.C_below hC6 h))
      rw [← hS] at HCE
      obtain ⟨m6, hm6⟩ : ∃ m6, m6 = (encP p).length := ⟨_, rfl⟩
      rw [← hm6] at HDE HCE hc6 hel
      show _
      try rw [← hm6]
      clear he hC6 heb hS hdr hm6 HRE
      go_wp2_with fail
      apply region_grew [Is _, Is _, Is _, Is _, Is _, Is _, Is _, Is _, Is _, Is _, Is _, Is _, Is _, Is _, Is _, Is _, Is _, Is _] [([(2, none)], none), ([(30, some 0)], none), ([(31, some 1)], none), ([(5, none)], none), ([(32, some 2), (33, some 3)], none), ([(34, some 4)], none), ([(5, none), (35, some 5)], some (35, false)), ([(7, none), (35, some 5)], some (35, false)), ([(37, some 7), (35, some 5)], some (35, false)), ([(36, some 6), (38, some 8), (35, some 5)], some (35, false)), ([(35, some 5), (39, some 9)], none), ([(40, some 10)], none), ([(5, none), (41, some 11)], some (41, false)), ([(42, some 12), (41, some 11)], some (41, false)), ([(6, none), (43, some 13)], some (43, true)), ([(44, some 14), (43, some 13)], some (43, true)), ([(2, none), (43, some 13)], some (43, true)), ([(46, some 16), (43, some 13)], some (43, true))] [(30, 0), (31, 1), (32, 2), (33, 3), (34, 4), (35, 5), (36, 6), (37, 7), (38, 8), (39, 9), (40, 10), (41, 11), (42, 12), (43, 13), (44, 14), (45, 15), (46, 16), (47, 17)] rfl (by kernel_rfl) (by kernel_rfl) (show Stable Grew _ from ⟨Is.stable _, Is.stable _, Is.stable _, Is.stable _, Is.stable _, Is.stable _, Is.stable _, Is.stable _, Is.stable _, Is.stable _, Is.stable _, Is.stable _, Is.stable _, Is.stable _, Is.stable _, Is.stable _, Is.stable _, Is.stable _, trivial⟩)
      · show OpsHold _ _ _ _ _ _ _ _ _
        refine ⟨fun a_ wx hR hD K hK => ?_, ?_⟩
        · have hG : Grew w3 wx := (Grew.drew _).trans hR
          simp [Deps, Dep, at_, Is] at hD
          obtain ⟨e0, e1, e2, e3, e4⟩ := CB.out wx (Grew.trans hg3' hG)
          go_simp
          exact hK _ _ (Grew.refl _) rfl
        refine ⟨fun a_ wx hR hD K hK => ?_, ?_⟩
        · have hG : Grew w3 wx := (Grew.drew _).trans hR
          simp [Deps, Dep, at_, Is] at hD
          go_simp
          have hcn := HMI.out wx
          with_reducible refine hcn.mono ?_
          clear hcn
          rintro e wy ⟨v, rfl, hv, hg⟩
          exact hK _ _ hg hv
        refine ⟨fun a_ wx hR hD K hK => ?_, ?_⟩
        · have hG : Grew w3 wx := (Grew.drew _).trans hR
          simp [Deps, Dep, at_, Is] at hD
          go_simp
          have hcn := HRG.out wx
          with_reducible refine hcn.mono ?_
          clear hcn
          rintro e wy ⟨v, rfl, hv, hg⟩
          exact hK _ _ hg hv
        refine ⟨fun a_ wx hR hD K hK => ?_, ?_⟩
        · have hG : Grew w3 wx := (Grew.drew _).trans hR
          simp [Deps, Dep, at_, Is] at hD
          go_simp
          exact hK _ _ (Grew.refl _) rfl
        refine ⟨fun a_ wx hR hD K hK => ?_, ?_⟩
        · have hG : Grew w3 wx := (Grew.drew _).trans hR
          simp [Deps, Dep, at_, Is] at hD
          obtain ⟨hd0, hd1⟩ := hD
          go_simp
          exact hK _ _ (Grew.refl _) rfl
        refine ⟨fun a_ wx hR hD K hK => ?_, ?_⟩
        · have hG : Grew w3 wx := (Grew.drew _).trans hR
          simp [Deps, Dep, at_, Is] at hD
          go_simp
          exact hK _ _ (Grew.refl _) rfl
        refine ⟨fun a_ wx hR hD => ⟨fun hgd K hK => ?_, fun hgd => ?_⟩, ?_⟩
        · have hG : Grew w3 wx := (Grew.drew _).trans hR
          clear hgd
          simp [Deps, Dep, at_, Is] at hD
          obtain ⟨hd0, hd1⟩ := hD
          go_simp
          exact hK _ _ (Grew.refl _) rfl
        · have hG : Grew w3 wx := (Grew.drew _).trans hR
          exfalso
          simp [Deps, Dep, at_, Is] at hD
          simp_all
        refine ⟨fun a_ wx hR hD => ⟨fun hgd K hK => ?_, fun hgd => ?_⟩, ?_⟩
        · have hG : Grew w3 wx := (Grew.drew _).trans hR
          clear hgd
          simp [Deps, Dep, at_, Is] at hD
          obtain ⟨hd0, hd1⟩ := hD
          go_simp
          exact hK _ _ (Grew.refl _) rfl
        · have hG : Grew w3 wx := (Grew.drew _).trans hR
          exfalso
          simp [Deps, Dep, at_, Is] at hD
          simp_all
        refine ⟨fun a_ wx hR hD => ⟨fun hgd K hK => ?_, fun hgd => ?_⟩, ?_⟩
        · have hG : Grew w3 wx := (Grew.drew _).trans hR
          clear hgd
          simp [Deps, Dep, at_, Is] at hD
          obtain ⟨hd0, hd1⟩ := hD
          go_simp
          exact hK _ _ (Grew.refl _) rfl
        · have hG : Grew w3 wx := (Grew.drew _).trans hR
          exfalso
          simp [Deps, Dep, at_, Is] at hD
          simp_all
        refine ⟨fun a_ wx hR hD => ⟨fun hgd K hK => ?_, fun hgd => ?_⟩, ?_⟩
        · have hG : Grew w3 wx := (Grew.drew _).trans hR
          clear hgd
          simp [Deps, Dep, at_, Is] at hD
          obtain ⟨hd0, hd1, hd2⟩ := hD
          go_simp
          exact hK _ _ (Grew.refl _) rfl
        · have hG : Grew w3 wx := (Grew.drew _).trans hR
          exfalso
          simp [Deps, Dep, at_, Is] at hD
          simp_all
        refine ⟨fun a_ wx hR hD K hK => ?_, ?_⟩
        · have hG : Grew w3 wx := (Grew.drew _).trans hR
          simp [Deps, Dep, at_, Is] at hD
          obtain ⟨hd0, hd1⟩ := hD
          go_simp
          exact hK _ _ (Grew.refl _) rfl
        refine ⟨fun a_ wx hR hD K hK => ?_, ?_⟩
        · have hG : Grew w3 wx := (Grew.drew _).trans hR
          simp [Deps, Dep, at_, Is] at hD
          go_simp
          exact hK _ _ (Grew.refl _) rfl
        refine ⟨fun a_ wx hR hD => ⟨fun hgd K hK => ?_, fun hgd => ?_⟩, ?_⟩
        · have hG : Grew w3 wx := (Grew.drew _).trans hR
          clear hgd
          simp [Deps, Dep, at_, Is] at hD
          obtain ⟨hd0, hd1⟩ := hD
          go_simp
          exact hK _ _ (Grew.refl _) rfl
        · have hG : Grew w3 wx := (Grew.drew _).trans hR
          exfalso
          simp [Deps, Dep, at_, Is] at hD
          simp_all
        refine ⟨fun a_ wx hR hD => ⟨fun hgd K hK => ?_, fun hgd => ?_⟩, ?_⟩
        · have hG : Grew w3 wx := (Grew.drew _).trans hR
          clear hgd
          simp [Deps, Dep, at_, Is] at hD
          obtain ⟨hd0, hd1⟩ := hD
          go_simp
          exact hK _ _ (Grew.refl _) rfl
        · have hG : Grew w3 wx := (Grew.drew _).trans hR
          exfalso
          simp [Deps, Dep, at_, Is] at hD
          simp_all
        refine ⟨fun a_ wx hR hD => ⟨fun hgd K hK => ?_, fun hgd => ?_⟩, ?_⟩
        · have hG : Grew w3 wx := (Grew.drew _).trans hR
          clear hgd
          simp [Deps, Dep, at_, Is] at hD
          obtain ⟨hd0, hd1⟩ := hD
          go_simp
          exact hK _ _ (Grew.refl _) rfl
        · have hG : Grew w3 wx := (Grew.drew _).trans hR
          exfalso
          simp [Deps, Dep, at_, Is] at hD
          simp_all
        refine ⟨fun a_ wx hR hD => ⟨fun hgd K hK => ?_, fun hgd => ?_⟩, ?_⟩
        · have hG : Grew w3 wx := (Grew.drew _).trans hR
          clear hgd
          simp [Deps, Dep, at_, Is] at hD
          obtain ⟨hd0, hd1⟩ := hD
          have e_ := HCE.out wx hG
          go_simp
          exact hK _ _ (Grew.refl _) rfl
        · have hG : Grew w3 wx := (Grew.drew _).trans hR
          exfalso
          simp [Deps, Dep, at_, Is] at hD
          simp_all
        refine ⟨fun a_ wx hR hD => ⟨fun hgd K hK => ?_, fun hgd => ?_⟩, ?_⟩
        · have hG : Grew w3 wx := (Grew.drew _).trans hR
          clear hgd
          simp [Deps, Dep, at_, Is] at hD
          obtain ⟨e0, e1, e2, e3, e4⟩ := CB.out wx (Grew.trans hg3' hG)
          go_simp
          exact hK _ _ (Grew.refl _) rfl
        · have hG : Grew w3 wx := (Grew.drew _).trans hR
          exfalso
          simp [Deps, Dep, at_, Is] at hD
          simp_all
        refine ⟨fun a_ wx hR hD => ⟨fun hgd K hK => ?_, fun hgd => ?_⟩, ?_⟩
        · have hG : Grew w3 wx := (Grew.drew _).trans hR
          clear hgd
          simp [Deps, Dep, at_, Is] at hD
          obtain ⟨hd0, hd1⟩ := hD
          go_simp
          have hcn := HRE2.out wx
          with_reducible refine hcn.mono ?_
          clear hcn
          rintro e wy ⟨v, rfl, hv, hg⟩
          exact hK _ _ hg hv
        · have hG : Grew w3 wx := (Grew.drew _).trans hR
          exfalso
          simp [Deps, Dep, at_, Is] at hD
          simp_all
        trivial
      · show EndHold _ _ _ _ _ _ _
        refine end_all (xs := [_, _, _, _, _, _, _, _, _, _, _, _, _, _, _, _, _, _]) ⟨rfl, rfl, rfl, rfl, rfl, rfl, rfl, rfl, rfl, rfl, rfl, rfl, rfl, rfl, rfl, rfl, rfl, rfl, trivial⟩ ?_
        rintro w4 hR1 -
        refine ⟨?_⟩
        have hG_w4 : Grew w3 w4 := (Grew.drew _).trans hR1
        clear hR1
        simp only [Act.put, List.setIfInBounds_toArray, List.set_cons_succ, List.set_cons_zero, dropN, putEach]
        have hg4 := Grew.trans hg3' hG_w4
        go_wp2_with fail
        refine (HDE.out w4 hG_w4).mono ?_
        rintro e w5 ⟨_, rfl, rfl, hg5⟩
        have hg5' := Grew.trans hg4 hg5
        obtain ⟨g8, hg8⟩ : ∃ g8, g8 = w5.heap.size := ⟨_, rfl⟩
        obtain ⟨W8, hW8⟩ : ∃ W8, W8 = w5.alloc (.cells #[.bool r, .int .i64 n, .bool z, .string d, .int .i64 b] 30) := ⟨_, rfl⟩
        have hb8 : Blk W8 g8 30 [.bool r, .int .i64 n, .bool z, .string d, .int .i64 b] := by rw [hW8, hg8]; exact Blk.new _ _ _
        have C8 := Lib.hid (show ∀ wx, Grew W8 wx → (wx.cell? ⟨g8, 0, none⟩ = some (.bool r) ∧ wx.cell? ⟨g8, 1, none⟩ = some (.int .i64 n) ∧ wx.cell? ⟨g8, 2, none⟩ = some (.bool z) ∧ wx.cell? ⟨g8, 3, none⟩ = some (.string d) ∧ wx.cell? ⟨g8, 4, none⟩ = some (.int .i64 b)) from fun wx h => ⟨by rw [(hb8.grew h).at_]; rfl, by rw [(hb8.grew h).at_]; rfl, by rw [(hb8.grew h).at_]; rfl, by rw [(hb8.grew h).at_]; rfl, by rw [(hb8.grew h).at_]; rfl⟩)
        have hgW8 : Grew W0 W8 := by rw [hW8]; exact Grew.trans hg5' (Grew.alloc _ _)
        have HEQ8 := Lib.hid (fun w' => show (Op.equalIn 10000 23 (.agg #[.bool r, .int .i64 n, .bool z, .string d, .int .i64 b]) (.agg #[.bool r, .int .i64 n, .bool z, .string d, .int .i64 b])).run Try.prog w' = .ok true w' from by
          have h := eqPkB 9998 w' r r n n z z d d b b
          simpa using h)
        have HW8 := Lib.hid hW8
        have HG8 := Lib.hid hg8
        clear hb8 hW8 hg8 hg3' hG_w4 hg4 hg5 hg5'
        go_wp2_with fail
        rw [← HW8.out]
        rw [← HG8.out]
        apply region_grew [Is _, Is _, Is _, Is _, Is _, Is _] [([(9, none)], none), ([(70, some 0)], none), ([(71, some 1)], none), ([(8, none), (72, some 2)], some (72, false)), ([(73, some 3), (72, some 2)], some (72, false)), ([(2, none), (72, some 2)], some (72, false))] [(70, 0), (71, 1), (72, 2), (73, 3), (74, 4), (75, 5)] rfl (by kernel_rfl) (by kernel_rfl) (show Stable Grew _ from ⟨Is.stable _, Is.stable _, Is.stable _, Is.stable _, Is.stable _, Is.stable _, trivial⟩)
        · show OpsHold _ _ _ _ _ _ _ _ _
          refine ⟨fun a_ wx hR hD K hK => ?_, ?_⟩
          · have hG : Grew W8 wx := (Grew.drew _).trans hR
            simp [Deps, Dep, at_, Is] at hD
            go_simp
            exact hK _ _ (Grew.refl _) rfl
          refine ⟨fun a_ wx hR hD K hK => ?_, ?_⟩
          · have hG : Grew W8 wx := (Grew.drew _).trans hR
            simp [Deps, Dep, at_, Is] at hD
            go_simp
            exact hK _ _ (Grew.refl _) rfl
          refine ⟨fun a_ wx hR hD K hK => ?_, ?_⟩
          · have hG : Grew W8 wx := (Grew.drew _).trans hR
            simp [Deps, Dep, at_, Is] at hD
            go_simp
            exact hK _ _ (Grew.refl _) rfl
          refine ⟨fun a_ wx hR hD => ⟨fun hgd K hK => ?_, fun hgd => ?_⟩, ?_⟩
          · have hG : Grew W8 wx := (Grew.drew _).trans hR
            clear hgd
            simp [Deps, Dep, at_, Is] at hD
            obtain ⟨e0, e1, e2, e3, e4⟩ := C8.out wx hG
            go_simp
            exact hK _ _ (Grew.refl _) rfl
          · have hG : Grew W8 wx := (Grew.drew _).trans hR
            exfalso
            simp [Deps, Dep, at_, Is] at hD
            simp_all
          refine ⟨fun a_ wx hR hD => ⟨fun hgd K hK => ?_, fun hgd => ?_⟩, ?_⟩
          · have hG : Grew W8 wx := (Grew.drew _).trans hR
            clear hgd
            simp [Deps, Dep, at_, Is] at hD
            obtain ⟨hd0, hd1⟩ := hD
            go_simp
            have hcn := HTH.out r n z d b wx
            with_reducible refine hcn.mono ?_
            clear hcn
            rintro e wy ⟨v, rfl, hv, hg⟩
            exact hK _ _ hg hv
          · have hG : Grew W8 wx := (Grew.drew _).trans hR
            exfalso
            simp [Deps, Dep, at_, Is] at hD
            simp_all
          refine ⟨fun a_ wx hR hD => ⟨fun hgd K hK => ?_, fun hgd => ?_⟩, ?_⟩
          · have hG : Grew W8 wx := (Grew.drew _).trans hR
            clear hgd
            simp [Deps, Dep, at_, Is] at hD
            obtain ⟨e0, e1, e2, e3, e4⟩ := CB.out wx (Grew.trans hgW8 hG)
            go_simp
            exact hK _ _ (Grew.refl _) rfl
          · have hG : Grew W8 wx := (Grew.drew _).trans hR
            exfalso
            simp [Deps, Dep, at_, Is] at hD
            simp_all
          trivial
        · show EndHold _ _ _ _ _ _ _
          refine end_all (xs := [_, _, _, _, _, _]) ⟨rfl, rfl, rfl, rfl, rfl, rfl, trivial⟩ ?_
          rintro w9 hR1 -
          refine ⟨?_⟩
          have hG_w9 : Grew W8 w9 := (Grew.drew _).trans hR1
          clear hR1
          simp only [Act.put, List.setIfInBounds_toArray, List.set_cons_succ, List.set_cons_zero, dropN, putEach]
          have hg9 := Grew.trans hgW8 hG_w9
          go_wp2_with fail
          refine (HDR.out _ (Grew.trans HG0.out hg9)).mono ?_
          rintro e wa ⟨_, rfl, rfl, hga⟩
          have hga' := Grew.trans hg9 hga
          obtain ⟨o, ho⟩ : ∃ o, decP l = o := ⟨_, rfl⟩
          have HO := Lib.hid ho
          cases o with
          | none =>
            have hres : decRes l = .tuple #[.agg #[.bool false, .int .i64 0, .bool false, .string ⟨#[]⟩, .int .i64 0], .int .i64 4] := by unfold decRes; rw [ho]; rfl
            rw [hres]
            clear hres ho
            have HEQ := Lib.hid (fun w' => show (Op.equalIn 10000 30 (.agg #[.bool false, .int .i64 0, .bool false, .string ⟨#[]⟩, .int .i64 0]) (.agg #[.bool false, .int .i64 0, .bool false, .string ⟨#[]⟩, .int .i64 0])).run Try.prog w' = .ok true w' from by
              have h := eqPkA 9998 w' false false 0 0 false false ⟨#[]⟩ ⟨#[]⟩ 0 0
              simpa using h)
            have heq := HEQ.out
            go_wp2_with fail
            refine (lives_c _).mono ?_
            rintro e wb ⟨_, rfl, rfl, hgb⟩
            go_wp2_with fail
            go_ret
            exact ⟨_, rfl, rfl, Grew.trans HG0.out (Grew.trans (Grew.trans hga' (Grew.alloc _ _)) hgb)⟩
          | some x =>
            obtain ⟨hx1, hx2⟩ := enc_dec HBY.out ho
            obtain ⟨x0, x1, x2, x3, x4⟩ := x
            have hres : decRes l = .tuple #[.agg #[.bool x0, .int .i64 x1, .bool x2, .string x3, .int .i64 x4], .int .i64 0] := by unfold decRes; rw [ho]; rfl
            rw [hres]
            obtain ⟨SL, hSL⟩ : ∃ SL, SL = strOfNums l := ⟨_, rfl⟩
            have HR2 := Lib.hid (show ∀ w, Calls Try.prog 8 #[.agg #[.bool x0, .int .i64 x1, .bool x2, .string x3, .int .i64 x4]] w (Tells w (Is (.bool true))) from fun w => by have := rright_c ⟨x0, x1, x2, x3, x4⟩ w; rw [hx1] at this; exact this)
            have HE2 := Lib.hid (show ∀ w, Calls Try.prog 12 #[.agg #[.bool x0, .int .i64 x1, .bool x2, .string x3, .int .i64 x4]] w (Tells w (Is (.string SL))) from fun w => by have := rencode_c ⟨x0, x1, x2, x3, x4⟩ hx1 w; rw [hx2, ← hSL] at this; exact this)
            have HCV2 := Lib.hid (fun w' (h : Grew W0 w') => HCV.out w' (Grew.trans HG0.out h))
            rw [← hSL] at HCV2
            clear hres ho hx1 hx2 hSL
            obtain ⟨ga, hgae⟩ : ∃ ga, ga = wa.heap.size := ⟨_, rfl⟩
            obtain ⟨Wa, hWa⟩ : ∃ Wa, Wa = wa.alloc (.cells #[.bool x0, .int .i64 x1, .bool x2, .string x3, .int .i64 x4] 30) := ⟨_, rfl⟩
            have hba : Blk Wa ga 30 [.bool x0, .int .i64 x1, .bool x2, .string x3, .int .i64 x4] := by rw [hWa, hgae]; exact Blk.new _ _ _
            have CA := Lib.hid (show ∀ wx, Grew Wa wx → (wx.cell? ⟨ga, 0, none⟩ = some (.bool x0) ∧ wx.cell? ⟨ga, 1, none⟩ = some (.int .i64 x1) ∧ wx.cell? ⟨ga, 2, none⟩ = some (.bool x2) ∧ wx.cell? ⟨ga, 3, none⟩ = some (.string x3) ∧ wx.cell? ⟨ga, 4, none⟩ = some (.int .i64 x4)) from fun wx h => ⟨by rw [(hba.grew h).at_]; rfl, by rw [(hba.grew h).at_]; rfl, by rw [(hba.grew h).at_]; rfl, by rw [(hba.grew h).at_]; rfl, by rw [(hba.grew h).at_]; rfl⟩)
            have hgWa : Grew W0 Wa := by rw [hWa]; exact Grew.trans hga' (Grew.alloc _ _)
            have HWA := Lib.hid hWa
            have HGA := Lib.hid hgae
            clear hba hWa hgae
            go_wp2_with fail
            rw [← HWA.out]
            rw [← HGA.out]
            apply region_grew [Is _, Is _, Is _, Is _, Is _, Is _, Is _, Is _, Is _] [([(10, none)], none), ([(95, some 0)], none), ([(96, some 1)], none), ([(97, some 2)], none), ([(10, none), (98, some 3)], some (98, true)), ([(99, some 4), (98, some 3)], some (98, true)), ([(100, some 5), (98, some 3)], some (98, true)), ([(1, none), (98, some 3)], some (98, true)), ([(102, some 7), (98, some 3)], some (98, true))] [(95, 0), (96, 1), (97, 2), (98, 3), (99, 4), (100, 5), (101, 6), (102, 7), (103, 8)] rfl (by kernel_rfl) (by kernel_rfl) (show Stable Grew _ from ⟨Is.stable _, Is.stable _, Is.stable _, Is.stable _, Is.stable _, Is.stable _, Is.stable _, Is.stable _, Is.stable _, trivial⟩)
            · show OpsHold _ _ _ _ _ _ _ _ _
              refine ⟨fun a_ wx hR hD K hK => ?_, ?_⟩
              · have hG : Grew Wa wx := (Grew.drew _).trans hR
                simp [Deps, Dep, at_, Is] at hD
                obtain ⟨e0, e1, e2, e3, e4⟩ := CA.out wx hG
                go_simp
                exact hK _ _ (Grew.refl _) rfl
              refine ⟨fun a_ wx hR hD K hK => ?_, ?_⟩
              · have hG : Grew Wa wx := (Grew.drew _).trans hR
                simp [Deps, Dep, at_, Is] at hD
                go_simp
                have hcn := HTH.out x0 x1 x2 x3 x4 wx
                with_reducible refine hcn.mono ?_
                clear hcn
                rintro e wy ⟨v, rfl, hv, hg⟩
                exact hK _ _ hg hv
              refine ⟨fun a_ wx hR hD K hK => ?_, ?_⟩
              · have hG : Grew Wa wx := (Grew.drew _).trans hR
                simp [Deps, Dep, at_, Is] at hD
                go_simp
                have hcn := HR2.out wx
                with_reducible refine hcn.mono ?_
                clear hcn
                rintro e wy ⟨v, rfl, hv, hg⟩
                exact hK _ _ hg hv
              refine ⟨fun a_ wx hR hD K hK => ?_, ?_⟩
              · have hG : Grew Wa wx := (Grew.drew _).trans hR
                simp [Deps, Dep, at_, Is] at hD
                go_simp
                exact hK _ _ (Grew.refl _) rfl
              refine ⟨fun a_ wx hR hD => ⟨fun hgd K hK => ?_, fun hgd => ?_⟩, ?_⟩
              · have hG : Grew Wa wx := (Grew.drew _).trans hR
                clear hgd
                simp [Deps, Dep, at_, Is] at hD
                obtain ⟨e0, e1, e2, e3, e4⟩ := CA.out wx hG
                go_simp
                exact hK _ _ (Grew.refl _) rfl
              · have hG : Grew Wa wx := (Grew.drew _).trans hR
                exfalso
                simp [Deps, Dep, at_, Is] at hD
                simp_all
              refine ⟨fun a_ wx hR hD => ⟨fun hgd K hK => ?_, fun hgd => ?_⟩, ?_⟩
              · have hG : Grew Wa wx := (Grew.drew _).trans hR
                clear hgd
                simp [Deps, Dep, at_, Is] at hD
                obtain ⟨hd0, hd1⟩ := hD
                go_simp
                have hcn := HTH.out x0 x1 x2 x3 x4 wx
                with_reducible refine hcn.mono ?_
                clear hcn
                rintro e wy ⟨v, rfl, hv, hg⟩
                exact hK _ _ hg hv
              · have hG : Grew Wa wx := (Grew.drew _).trans hR
                exfalso
                simp [Deps, Dep, at_, Is] at hD
                simp_all
              refine ⟨fun a_ wx hR hD => ⟨fun hgd K hK => ?_, fun hgd => ?_⟩, ?_⟩
              · have hG : Grew Wa wx := (Grew.drew _).trans hR
                clear hgd
                simp [Deps, Dep, at_, Is] at hD
                obtain ⟨hd0, hd1⟩ := hD
                go_simp
                have hcn := HE2.out wx
                with_reducible refine hcn.mono ?_
                clear hcn
                rintro e wy ⟨v, rfl, hv, hg⟩
                exact hK _ _ hg hv
              · have hG : Grew Wa wx := (Grew.drew _).trans hR
                exfalso
                simp [Deps, Dep, at_, Is] at hD
                simp_all
              refine ⟨fun a_ wx hR hD => ⟨fun hgd K hK => ?_, fun hgd => ?_⟩, ?_⟩
              · have hG : Grew Wa wx := (Grew.drew _).trans hR
                clear hgd
                simp [Deps, Dep, at_, Is] at hD
                obtain ⟨hd0, hd1⟩ := hD
                go_simp
                exact hK _ _ (Grew.refl _) rfl
              · have hG : Grew Wa wx := (Grew.drew _).trans hR
                exfalso
                simp [Deps, Dep, at_, Is] at hD
                simp_all
              refine ⟨fun a_ wx hR hD => ⟨fun hgd K hK => ?_, fun hgd => ?_⟩, ?_⟩
              · have hG : Grew Wa wx := (Grew.drew _).trans hR
                clear hgd
                simp [Deps, Dep, at_, Is] at hD
                obtain ⟨hd0, hd1⟩ := hD
                have e_ := HCV2.out wx (Grew.trans hgWa hG)
                go_simp
                exact hK _ _ (Grew.refl _) rfl
              · have hG : Grew Wa wx := (Grew.drew _).trans hR
                exfalso
                simp [Deps, Dep, at_, Is] at hD
                simp_all
              trivial
            · show EndHold _ _ _ _ _ _ _
              refine end_all (xs := [_, _, _, _, _, _, _, _, _]) ⟨rfl, rfl, rfl, rfl, rfl, rfl, rfl, rfl, rfl, trivial⟩ ?_
              rintro wb hR1 -
              refine ⟨?_⟩
              have hG_wb : Grew Wa wb := (Grew.drew _).trans hR1
              clear hR1
              simp only [Act.put, List.setIfInBounds_toArray, List.set_cons_succ, List.set_cons_zero, dropN, putEach]
              go_wp2_with fail
              refine (lives_c wb).mono ?_
              rintro e wc ⟨_, rfl, rfl, hgc⟩
              go_wp2_with fail
              go_ret
              exact ⟨_, rfl, rfl, Grew.trans HG0.out (Grew.trans (Grew.trans hgWa hG_wb) hgc)⟩
  · have hgo2 : (decide (1000 < ds) = true ∧ decide (1000 < (ds : Int)) = true ∧ 1000 < ds) ∨ ((decide (1000 < ds) = false ∧ decide (1000 < (ds : Int)) = false) ∧ decide (2000 < q) = true ∧ decide (2000 < (q : Int)) = true ∧ 2000 < q) := by
      by_cases h : 1000 < ds
      · exact .inl ⟨decide_eq_true h, decide_eq_true (by omega), h⟩
      · have h2 : 2000 < q := by omega
        exact .inr ⟨⟨decide_eq_false h, decide_eq_false (by omega)⟩, decide_eq_true h2, decide_eq_true (by omega), h2⟩
    clear hr hm hy hw hbl hgo hq hds ok1 ok3 ok4 hb0
    rcases hgo2 with ⟨d1, d2, d3⟩ | ⟨⟨d1, d2⟩, d4, d5, d6⟩
    all_goals
      go_enter Try.func3, Try.ntmps3
      go_wp2_with fail
      refine (lives_c _).mono ?_
      rintro e w2 ⟨_, rfl, rfl, hg2⟩
      go_wp2_with fail
      go_ret
      exact ⟨_, rfl, rfl, Grew.trans (Grew.alloc _ _) hg2⟩
end Go.Proofs.Yteaefambkagpbaa.F

-- Open
namespace Go.Proofs.YteaefambkagpbaaO
set_option linter.unusedSimpArgs false
open Go Go.RowKit Go.ChangeShapes Go.WideShapes Go.ChangeAt Go.Proofs.YteaefambkagpbaaW.PrintWords
/-- cells of type t that can be read as data are some x of kind d -/
def Opens {α : Type} (P : Program) (t : TypeId) (d : Kd α) (ok : α → Prop) : Prop :=
  ∀ (H : Type) (enc : TypeId × Value → H) (W : World) (sp : Nat → Bool) (held : Bool) (fuel : Nat) (cs : List Value) (y : DataW H × List MemPlace), DataW.trod enc P W 0 sp held fuel t cs = some y → ∃ x, d.K W x cs ∧ ok x
section
variable {P : Program} {α : Type}
theorem opens_int {t : TypeId} {k : IntKind} (hu : P.underlying t = some (.int k)) : Opens P t (Kd.int k) (fun x => (Lit.int k x).wf = true) := by
  intro H enc W sp held fuel cs y h
  cases fuel with
  | zero => simp [DataW.trod] at h
  | succ n =>
    have key : ∃ n', cs = [.int k n'] ∧ (Lit.int k n').wf = true := by
      simp only [DataW.trod, hu] at h
      split at h <;> simp_all
    obtain ⟨x, rfl, hx⟩ := key
    exact ⟨x, rfl, hx⟩
theorem opens_bool {t : TypeId} (hu : P.underlying t = some .bool) : Opens P t Kd.bool (fun _ => True) := by
  intro H enc W sp held fuel cs y h
  cases fuel with
  | zero => simp [DataW.trod] at h
  | succ n =>
    have key : ∃ b, cs = [.bool b] := by
      simp only [DataW.trod, hu] at h
      split at h <;> simp_all
    obtain ⟨x, rfl⟩ := key
    exact ⟨x, rfl, trivial⟩
theorem opens_string {t : TypeId} (hu : P.underlying t = some .string) : Opens P t Kd.string (fun s => s.size ≤ maxLen) := by
  intro H enc W sp held fuel cs y h
  cases fuel with
  | zero => simp [DataW.trod] at h
  | succ n =>
    simp only [DataW.trod, hu] at h
    split at h <;> simp_all
    exact ⟨_, rfl, h.1⟩
theorem mapM_get {β γ : Type} {f : β → Option γ} : ∀ {l : List β} {ys : List γ}, l.mapM f = some ys → ys.length = l.length ∧ ∀ (i : Nat) (x : β), l[i]? = some x → ∃ y, f x = some y
  | [], ys, h => by simp at h; subst h; simp
  | a :: l, ys, h => by
    simp only [List.mapM_cons] at h
    obtain ⟨b, hb, h⟩ := Option.bind_eq_some_iff.1 h
    obtain ⟨bs, hbs, h⟩ := Option.bind_eq_some_iff.1 h
    simp at h
    subst h
    have ih := mapM_get hbs
    refine ⟨by simp [ih.1], fun i x hx => ?_⟩
    cases i with
    | zero => simp at hx; subst hx; exact ⟨b, hb⟩
    | succ i => simp at hx; exact ih.2 i x hx
theorem choose_list {ok : α → Prop} {Q : Nat → α → Prop} : ∀ n : Nat, (∀ i, i < n → ∃ x, Q i x ∧ ok x) → ∃ xs : List α, xs.length = n ∧ (∀ (i : Nat) (x : α), xs[i]? = some x → Q i x) ∧ ∀ x ∈ xs, ok x
  | 0, _ => ⟨[], rfl, by simp, by simp⟩
  | n + 1, h => by
    obtain ⟨xs, h1, h2, h3⟩ := choose_list n (fun i hi => h i (by omega))
    obtain ⟨x, hx, hk⟩ := h n (by omega)
    refine ⟨xs ++ [x], by simp [h1], fun i y hy => ?_, fun y hy => ?_⟩
    · rcases Nat.lt_or_ge i n with hlt | hge
      · rw [List.getElem?_append_left (by omega)] at hy; exact h2 i y hy
      · rw [List.getElem?_append_right (by omega)] at hy
        have : i = n := by
          rcases Nat.lt_or_ge n i with h' | h'
          · rw [List.getElem?_eq_none (by simp; omega)] at hy; cases hy
          · omega
        subst this
        simp [h1] at hy
        subst hy; exact hx
    · rcases List.mem_append.1 hy with hy | hy
      · exact h3 y hy
      · simp at hy; subst hy; exact hk
theorem cells_get {W : World} {a : Addr} {n : Nat} {cs : List Value} (h : W.cells? 0 a n = some cs) : cs.length = n ∧ ∀ (i : Nat) (u : Value), cs[i]? = some u → W.cell? (a.add i) = some u := by
  unfold World.cells? at h
  rw [if_pos (Nat.zero_le _)] at h
  have h1 := mapM_get h
  refine ⟨by simpa using h1.1, fun i u hu => ?_⟩
  have hi : i < n := by
    have := (List.getElem?_eq_some_iff.1 hu).1
    rw [h1.1] at this; simpa using this
  obtain ⟨y, hy⟩ := h1.2 i i (by simp [hi])
  have key : ∀ (l : List Nat) (ys : List Value), l.mapM (fun i => W.cell? (a.add i)) = some ys → ∀ (j : Nat), ys[j]? = (l[j]?).bind fun i => W.cell? (a.add i) := by
    intro l
    induction l with
    | nil => intro ys h j; simp at h; subst h; simp
    | cons b l ih =>
      intro ys h j
      simp only [List.mapM_cons] at h
      obtain ⟨c, hc, h⟩ := Option.bind_eq_some_iff.1 h
      obtain ⟨cs', hcs, h⟩ := Option.bind_eq_some_iff.1 h
      simp at h; subst h
      cases j with
      | zero => simp [hc]
      | succ j => simpa using ih cs' hcs j
  have := key _ _ h i
  rw [hu] at this
  simp [hi] at this
  exact this.symm
theorem opens_slice {t e : TypeId} {d : Kd α} {ok : α → Prop} (hu : P.underlying t = some (.slice e)) (he : Opens P e d ok) (hc : P.cellsOf e = d.sz) : Opens P t (Kd.slice e d) (fun xs => ∀ x ∈ xs, ok x) := by
  intro H enc W sp held fuel cs y h
  cases fuel with
  | zero => simp [DataW.trod] at h
  | succ n =>
    have key : cs = [.slice none 0 0] ∨ ∃ a len cap, cs = [.slice (some a) len cap] ∧ len ≤ cap ∧ cap ≤ maxLen ∧ ∃ elems, (List.range len).mapM (fun i => (W.cells? 0 (a.add (i * P.cellsOf e)) (P.cellsOf e)).bind (DataW.trod enc P W 0 sp held n e)) = some elems := by
      simp only [DataW.trod, hu] at h
      split at h <;> try (simp_all; done)
      rename_i e' a len cap heq
      simp only [Option.some.injEq, TypeDesc.slice.injEq] at heq
      subst heq
      split at h
      · rename_i hb
        obtain ⟨elems, he1, _⟩ := Option.bind_eq_some_iff.1 h
        exact .inr ⟨a, len, cap, rfl, hb.2.1, hb.2.2, elems, he1⟩
      · cases h
    rcases key with rfl | ⟨a, len, cap, rfl, h1, h2, elems, he1⟩
    · exact ⟨[], ⟨none, 0, rfl, by simp, by simp [Kd.C, ReadsRow]⟩, by simp⟩
    · rw [hc] at he1
      have hm := mapM_get he1
      obtain ⟨xs, x1, x2, x3⟩ := choose_list (ok := ok) (Q := fun i x => ∃ c, W.cells? 0 (a.add (i * d.sz)) d.sz = some c ∧ d.K W x c) len (fun i hi => by
        obtain ⟨z, hz⟩ := hm.2 i i (by simp [hi])
        obtain ⟨c, hc1, hc2⟩ := Option.bind_eq_some_iff.1 hz
        obtain ⟨x, hx, hk⟩ := he H enc W sp held n c z hc2
        exact ⟨x, ⟨c, hc1, hx⟩, hk⟩)
      refine ⟨xs, ⟨some a, cap, by rw [x1], by omega, ?_⟩, x3⟩
      refine ⟨rfl, by have : maxLen = 9223372036854775807 := rfl; omega, fun _ => ⟨a, rfl, fun j p hp => ?_⟩⟩
      obtain ⟨c, hc1, hk⟩ := x2 j p hp
      have hg := cells_get hc1
      refine ⟨c, hg.1, hk, fun i u hiu => ?_⟩
      have := hg.2 i u hiu
      rw [← this]
      congr 1
      unfold Addr.add
      by_cases z1 : j * d.sz = 0
      · rw [if_pos z1]
        by_cases z2 : i = 0
        · simp [z1, z2]
        · rw [if_neg (by omega), if_neg z2]; simp [z1]
      · rw [if_neg z1, if_neg (by omega)]
        by_cases z2 : i = 0
        · simp [z2]
        · rw [if_neg z2]; simp [Nat.add_assoc]
theorem opens_array {t e n : Nat} {d : Kd α} {ok : α → Prop} (hs : 0 < d.sz) (hu : P.underlying t = some (.array n e)) (he : Opens P e d ok) (hc : P.cellsOf e = d.sz) (ht : P.cellsOf t = n * d.sz) : Opens P t (Kd.arr n d hs) (fun xs => ∀ x ∈ xs, ok x) := by
  intro H enc W sp held fuel cs y h
  cases fuel with
  | zero => simp [DataW.trod] at h
  | succ m =>
    simp only [DataW.trod, hu] at h
    split at h
    · rename_i hl
      obtain ⟨ys, hy, _⟩ := Option.map_eq_some_iff.1 h
      have hm := mapM_get hy
      obtain ⟨xs, x1, x2, x3⟩ := choose_list (ok := ok) (Q := fun i x => d.K W x ((cs.drop (i * d.sz)).take d.sz)) n (fun i hi => by
        obtain ⟨z, hz⟩ := hm.2 i i (by simp [hi])
        rw [hc] at hz
        exact he H enc W sp held m _ z hz)
      exact ⟨xs, ⟨x1, by rw [x1, hl, ht], x2⟩, x3⟩
    · cases h
/-- an argument of a kind -/
theorem opens_arg {t : TypeId} {d : Kd α} {ok : α → Prop} (ho : Opens P t d ok) {H : Type} {enc : TypeId × Value → H} {W : World} {sp : Nat → Bool} {held : Bool} {v : Value} {y : DataW H} {ps : List MemPlace} (h : DataW.Trod enc P W 0 sp held t v y ps) : ∃ x, d.K W x v.cells.toList ∧ ok x := by
  obtain ⟨fuel, hf⟩ := h
  exact ho H enc W sp held fuel _ _ hf
theorem okWide_array {t n e : Nat} {r : Reach} {b0 : Nat} {v : Value} {W : World} (hu : P.underlying t = some (.array n e)) (h : Value.okWide P W r b0 t v) : ∃ cs, v = .agg cs ∧ cs.size = P.cellsOf t := by
  simp only [Value.okWide, hu] at h
  obtain ⟨cs, h1, h2, _⟩ := h
  exact ⟨cs, h1, h2⟩
theorem arr2 {d : Kd α} {hs : 0 < d.sz} (h1 : d.sz = 1) {W : World} {x : List α} {cs : Array Value} (h : (Kd.arr 2 d hs).K W x cs.toList) : ∃ a b c0 c1, x = [a, b] ∧ cs = #[c0, c1] ∧ d.K W a [c0] ∧ d.K W b [c1] := by
  obtain ⟨hl, hc, hr⟩ := h
  rw [hl, h1] at hc
  obtain ⟨l⟩ := cs
  match x, hl, l, hc, hr with
  | [a, b], _, [c0, c1], _, hr => exact ⟨a, b, c0, c1, rfl, rfl, by have := hr 0 a rfl; rw [h1] at this; exact this, by have := hr 1 b rfl; rw [h1] at this; exact this⟩
theorem arr3 {d : Kd α} {hs : 0 < d.sz} (h1 : d.sz = 1) {W : World} {x : List α} {cs : Array Value} (h : (Kd.arr 3 d hs).K W x cs.toList) : ∃ a b c c0 c1 c2, x = [a, b, c] ∧ cs = #[c0, c1, c2] ∧ d.K W a [c0] ∧ d.K W b [c1] ∧ d.K W c [c2] := by
  obtain ⟨hl, hc, hr⟩ := h
  rw [hl, h1] at hc
  obtain ⟨l⟩ := cs
  match x, hl, l, hc, hr with
  | [a, b, c], _, [c0, c1, c2], _, hr => exact ⟨a, b, c, c0, c1, c2, rfl, rfl, by have := hr 0 a rfl; rw [h1] at this; exact this, by have := hr 1 b rfl; rw [h1] at this; exact this, by have := hr 2 c rfl; rw [h1] at this; exact this⟩
end
end Go.Proofs.YteaefambkagpbaaO

-- OpenW
namespace Go.Proofs.YteaefambkagpbaaO
set_option linter.unusedSimpArgs false
open Go Go.RowKit Go.ChangeShapes Go.WideShapes Go.ChangeAt Go.Proofs.YteaefambkagpbaaW.PrintWords
/-- cells of type t that can be read as data of no more weight than is reached are some x of kind d -/
def OpensW {α : Type} (P : Program) (t : TypeId) (d : Kd α) (ok : α → Prop) : Prop :=
  ∀ (H : Type) (enc : TypeId × Value → H) (W : World) (sp : Nat → Bool) (held : Bool) (fuel : Nat) (cs : List Value) (y : DataW H × List MemPlace), DataW.trod enc P W 0 sp held fuel t cs = some y → (∀ n ∈ y.1.weights P t, n ≤ reachBytes) → ∃ x, d.K W x cs ∧ ok x
section
variable {P : Program} {α : Type}
theorem Opens.w {t : TypeId} {d : Kd α} {ok : α → Prop} (h : Opens P t d ok) : OpensW P t d ok := fun H enc W sp held fuel cs y hy _ => h H enc W sp held fuel cs y hy
theorem opensW_string {t : TypeId} (hu : P.underlying t = some .string) : OpensW P t Kd.string (fun s => s.size ≤ 140737488351232) := by
  intro H enc W sp held fuel cs y h hw
  cases fuel with
  | zero => simp [DataW.trod] at h
  | succ n =>
    have key : ∃ s, cs = [.string s] ∧ y.1 = .lit (.string s.data.toList) := by
      simp only [DataW.trod, hu] at h
      split at h <;> simp_all
      rw [← h.2]
    obtain ⟨s, rfl, hy⟩ := key
    refine ⟨s, rfl, ?_⟩
    have := hw s.size (by rw [hy]; simp [DataW.weights])
    exact this
theorem mapM_mem {β γ : Type} {f : β → Option γ} : ∀ {l : List β} {ys : List γ}, l.mapM f = some ys → ∀ (x : β) (z : γ), x ∈ l → f x = some z → z ∈ ys
  | [], ys, h, x, z, hx, _ => by simp at hx
  | a :: l, ys, h, x, z, hx, hz => by
    simp only [List.mapM_cons] at h
    obtain ⟨b, hb, h⟩ := Option.bind_eq_some_iff.1 h
    obtain ⟨bs, hbs, h⟩ := Option.bind_eq_some_iff.1 h
    simp at h
    subst h
    rcases List.mem_cons.1 hx with rfl | hx
    · rw [hb] at hz; injection hz with hz; subst hz; simp
    · exact List.mem_cons_of_mem _ (mapM_mem hbs x z hx hz)
theorem weightsAll_mem {H : Type} {e : TypeId} {d : DataW H} {n : Nat} : ∀ {ds : List (DataW H)}, d ∈ ds → n ∈ d.weights P e → n ∈ DataW.weightsAll P e ds
  | [], h, _ => by simp at h
  | a :: ds, h, hn => by
    simp only [DataW.weightsAll]
    rcases List.mem_cons.1 h with rfl | h
    · exact List.mem_append_left _ hn
    · exact List.mem_append_right _ (weightsAll_mem h hn)
theorem opensW_slice {t e : TypeId} {d : Kd α} {ok : α → Prop} (hu : P.underlying t = some (.slice e)) (he : OpensW P e d ok) (hc : P.cellsOf e = d.sz) : OpensW P t (Kd.slice e d) (fun xs => ∀ x ∈ xs, ok x) := by
  intro H enc W sp held fuel cs y h hw
  cases fuel with
  | zero => simp [DataW.trod] at h
  | succ n =>
    have key : cs = [.slice none 0 0] ∨ ∃ a len cap, cs = [.slice (some a) len cap] ∧ len ≤ cap ∧ cap ≤ maxLen ∧ ∃ elems rest, (List.range len).mapM (fun i => (W.cells? 0 (a.add (i * P.cellsOf e)) (P.cellsOf e)).bind (DataW.trod enc P W 0 sp held n e)) = some elems ∧ y.1 = .slice (elems.map (·.1)) rest := by
      simp only [DataW.trod, hu] at h
      split at h <;> try (simp_all; done)
      rename_i e' a len cap heq
      simp only [Option.some.injEq, TypeDesc.slice.injEq] at heq
      subst heq
      split at h
      · rename_i hb
        obtain ⟨elems, he1, h⟩ := Option.bind_eq_some_iff.1 h
        obtain ⟨rest, _, h⟩ := Option.map_eq_some_iff.1 h
        refine .inr ⟨a, len, cap, rfl, hb.2.1, hb.2.2, elems, rest.map (·.1), he1, ?_⟩
        rw [← h]
      · cases h
    rcases key with rfl | ⟨a, len, cap, rfl, h1, h2, elems, rest, he1, hy⟩
    · exact ⟨[], ⟨none, 0, rfl, by simp, by simp [Kd.C, ReadsRow]⟩, by simp⟩
    · rw [hc] at he1
      have hm := mapM_get he1
      obtain ⟨xs, x1, x2, x3⟩ := choose_list (ok := ok) (Q := fun i x => ∃ c, W.cells? 0 (a.add (i * d.sz)) d.sz = some c ∧ d.K W x c) len (fun i hi => by
        obtain ⟨z, hz⟩ := hm.2 i i (by simp [hi])
        have hmem := mapM_mem he1 i z (by simp [hi]) hz
        obtain ⟨c, hc1, hc2⟩ := Option.bind_eq_some_iff.1 hz
        obtain ⟨x, hx, hk⟩ := he H enc W sp held n c z hc2 (fun q hq => hw q (by
          rw [hy]
          simp only [DataW.weights, hu]
          exact List.mem_cons_of_mem _ (List.mem_append_left _ (weightsAll_mem (List.mem_map_of_mem hmem) hq))))
        exact ⟨x, ⟨c, hc1, hx⟩, hk⟩)
      refine ⟨xs, ⟨some a, cap, by rw [x1], by omega, ?_⟩, x3⟩
      refine ⟨rfl, by have : maxLen = 9223372036854775807 := rfl; omega, fun _ => ⟨a, rfl, fun j p hp => ?_⟩⟩
      obtain ⟨c, hc1, hk⟩ := x2 j p hp
      have hg := cells_get hc1
      refine ⟨c, hg.1, hk, fun i u hiu => ?_⟩
      have := hg.2 i u hiu
      rw [← this]
      congr 1
      unfold Addr.add
      by_cases z1 : j * d.sz = 0
      · rw [if_pos z1]
        by_cases z2 : i = 0
        · simp [z1, z2]
        · rw [if_neg (by omega), if_neg z2]; simp [z1]
      · rw [if_neg z1, if_neg (by omega)]
        by_cases z2 : i = 0
        · simp [z2]
        · rw [if_neg z2]; simp [Nat.add_assoc]
theorem opensW_array {t e n : Nat} {d : Kd α} {ok : α → Prop} (hs : 0 < d.sz) (hu : P.underlying t = some (.array n e)) (he : OpensW P e d ok) (hc : P.cellsOf e = d.sz) (ht : P.cellsOf t = n * d.sz) : OpensW P t (Kd.arr n d hs) (fun xs => ∀ x ∈ xs, ok x) := by
  intro H enc W sp held fuel cs y h hw
  cases fuel with
  | zero => simp [DataW.trod] at h
  | succ m =>
    simp only [DataW.trod, hu] at h
    split at h
    · rename_i hl
      obtain ⟨ys, hy, hyy⟩ := Option.map_eq_some_iff.1 h
      have hm := mapM_get hy
      obtain ⟨xs, x1, x2, x3⟩ := choose_list (ok := ok) (Q := fun i x => d.K W x ((cs.drop (i * d.sz)).take d.sz)) n (fun i hi => by
        obtain ⟨z, hz⟩ := hm.2 i i (by simp [hi])
        have hmem := mapM_mem hy i z (by simp [hi]) hz
        rw [hc] at hz
        exact he H enc W sp held m _ z hz (fun q hq => hw q (by
          rw [← hyy]
          simp only [DataW.weights, hu]
          exact weightsAll_mem (List.mem_map_of_mem hmem) hq)))
      exact ⟨xs, ⟨x1, by rw [x1, hl, ht], x2⟩, x3⟩
    · cases h
/-- an argument of a kind -/
theorem opensW_arg {t : TypeId} {d : Kd α} {ok : α → Prop} (ho : OpensW P t d ok) {H : Type} {enc : TypeId × Value → H} {W : World} {sp : Nat → Bool} {held : Bool} {v : Value} {y : DataW H} {ps : List MemPlace} {ts : List TypeId} {ds : List (DataW H)} {j : Nat}
    (hsz : (DataW.weightsEach P ts ds).all (· ≤ reachBytes) = true) (ht : ts[j]? = some t) (hd : ds[j]? = some y) (h : DataW.Trod enc P W 0 sp held t v y ps) : ∃ x, d.K W x v.cells.toList ∧ ok x := by
  obtain ⟨fuel, hf⟩ := h
  exact ho H enc W sp held fuel _ _ hf (fun n hn => by
    have := List.all_eq_true.1 hsz _ (DataW.weights_mem_each ht hd n hn)
    simpa using this)
end
end Go.Proofs.YteaefambkagpbaaO

-- OpenS
namespace Go.Proofs.YteaefambkagpbaaO
set_option linter.unusedSimpArgs false
open Go Go.RowKit Go.ChangeShapes Go.WideShapes Go.ChangeAt Go.Proofs.YteaefambkagpbaaW.PrintWords
section
variable {P : Program} {α β : Type}
/-- the fields from a place on -/
def OpensF (P : Program) (fs : List Field) (off : Nat) (d : Kd α) (ok : α → Prop) : Prop :=
  ∀ (H : Type) (enc : TypeId × Value → H) (W : World) (sp : Nat → Bool) (held : Bool) (fuel : Nat) (cs : List Value) (ys : List (DataW H × List MemPlace)),
    fs.mapM (fun f => DataW.trod enc P W 0 sp held fuel f.type ((cs.drop f.offset).take (P.cellsOf f.type))) = some ys → (∀ n ∈ DataW.weightsEach P (fs.map (·.type)) (ys.map (·.1)), n ≤ reachBytes) →
    ∃ x, d.K W x ((cs.drop off).take d.sz) ∧ ok x
theorem opensF_one {f : Field} {d : Kd α} {ok : α → Prop} (h : OpensW P f.type d ok) (hc : P.cellsOf f.type = d.sz) : OpensF P [f] f.offset d ok := by
  intro H enc W sp held fuel cs ys hy hw
  simp only [List.mapM_cons, List.mapM_nil] at hy
  obtain ⟨y, hy1, hy⟩ := Option.bind_eq_some_iff.1 hy
  simp at hy
  subst hy
  rw [hc] at hy1
  exact h H enc W sp held fuel _ y hy1 fun n hn => hw n (by simp [DataW.weightsEach, hn])
theorem opensF_cons {f : Field} {fs : List Field} {d : Kd α} {d2 : Kd β} {ok : α → Prop} {ok2 : β → Prop} (h : OpensW P f.type d ok) (hc : P.cellsOf f.type = d.sz) (h2 : OpensF P fs (f.offset + d.sz) d2 ok2) :
    OpensF P (f :: fs) f.offset (Kd.pair d d2) (fun x => ok x.1 ∧ ok2 x.2) := by
  intro H enc W sp held fuel cs ys hy hw
  simp only [List.mapM_cons] at hy
  obtain ⟨y, hy1, hy⟩ := Option.bind_eq_some_iff.1 hy
  obtain ⟨ys2, hy2, hy⟩ := Option.bind_eq_some_iff.1 hy
  simp at hy
  subst hy
  rw [hc] at hy1
  obtain ⟨x1, k1, o1⟩ := h H enc W sp held fuel _ y hy1 fun n hn => hw n (by simp [DataW.weightsEach, hn])
  obtain ⟨x2, k2, o2⟩ := h2 H enc W sp held fuel cs ys2 hy2 fun n hn => hw n (by
    simp only [List.map_cons, DataW.weightsEach]
    exact List.mem_append_right _ hn)
  refine ⟨(x1, x2), ⟨_, _, ?_, k1, k2⟩, o1, o2⟩
  show (cs.drop f.offset).take (d.sz + d2.sz) = _
  rw [List.take_add, List.drop_drop]
theorem opensW_struct {t : TypeId} {fs : Array Field} {d : Kd α} {ok : α → Prop} (hu : P.underlying t = some (.struct fs)) (h : OpensF P fs.toList 0 d ok) (hc : P.cellsOf t = d.sz) : OpensW P t d ok := by
  intro H enc W sp held fuel cs y hy hw
  cases fuel with
  | zero => simp [DataW.trod] at hy
  | succ n =>
    have key : cs.length = P.cellsOf t ∧ ∃ ys, fs.toList.mapM (fun f => DataW.trod enc P W 0 sp held n f.type ((cs.drop f.offset).take (P.cellsOf f.type))) = some ys ∧ y.1 = .agg (ys.map (·.1)) := by
      simp only [DataW.trod, hu] at hy
      split at hy
      · rename_i hl
        obtain ⟨ys, h1, h2⟩ := Option.map_eq_some_iff.1 hy
        exact ⟨hl, ys, h1, by rw [← h2]⟩
      · cases hy
    obtain ⟨hl, ys, hy1, hy2⟩ := key
    obtain ⟨x, hx, ho⟩ := h H enc W sp held n cs ys hy1 fun q hq => hw q (by
      rw [hy2]
      simp only [DataW.weights, hu]
      exact hq)
    refine ⟨x, ?_, ho⟩
    rw [List.drop_zero, ← hc, ← hl, List.take_length] at hx
    exact hx
theorem opensW_iso {t : TypeId} {d : Kd α} {ok : α → Prop} (f : β → α) (g : α → β) (hfg : ∀ x, f (g x) = x) (h : OpensW P t d ok) : OpensW P t (Kd.iso d f) (fun x => ok (f x)) := by
  intro H enc W sp held fuel cs y hy hw
  obtain ⟨x, hx, ho⟩ := h H enc W sp held fuel cs y hy hw
  exact ⟨g x, by show d.K W (f (g x)) cs; rw [hfg]; exact hx, by show ok (f (g x)); rw [hfg]; exact ho⟩
theorem okWide_struct {t : TypeId} {fs : Array Field} {r : Reach} {b0 : Nat} {v : Value} {W : World} (hu : P.underlying t = some (.struct fs)) (h : Value.okWide P W r b0 t v) : ∃ cs, v = .agg cs ∧ cs.size = P.cellsOf t := by
  simp only [Value.okWide, hu] at h
  obtain ⟨cs, h1, h2, _⟩ := h
  exact ⟨cs, h1, h2⟩
end
end Go.Proofs.YteaefambkagpbaaO

-- RowLinkPackets
namespace Go.Proofs.Yteaefambkagpbaa.linkPackets
open Go.ChangeShapes Go.WideShapes Go.ChangeAt Go.RowKit
open Go.ChangeMaps (open_string shut_string)
set_option linter.unusedVariables false
set_option linter.unusedSimpArgs false
theorem own : ownKnob Try.prog.godebug = none := by kernel_rfl
theorem laidOut : laidOutB Try.prog = true := by kernel_rfl
def IsRow (k : IntKind) (w : World) (a : Option Addr) (len cap : Nat) (zs : List Int) : Prop :=
  (a = none ∧ len = 0 ∧ cap = 0 ∧ zs = []) ∨
  ∃ x, a = some x ∧ len ≤ cap ∧ cap ≤ maxLen ∧ zs.length = cap ∧ (∀ i, i < zs.length → w.cell? (x.add i) = some (.int k (zs.getD i 0))) ∧ ∀ n ∈ zs, (Lit.int k n).wf = true
set_option maxRecDepth 100000 in
theorem lifted (os : Os) (started : os.Started) (H : Type) (enc : TypeId × Value → H) :
    ReturnsInHanded {} Try.checked os 3 .any (Rows.linkPacketsSpec.pre6 enc Try.prog Try.f3 Rows.linkPacketsRow.domain false) (Rows.linkPacketsSpec.post enc Try.prog Try.f3 false true false false) := by
  refine returnsInHanded_of_change_sized (C := Try.checked) own started (by kernel_rfl) Try.func3
    (ChangeSpec.witness6 (enc := enc) (C := Try.checked) false ⟨#[], #[.agg #[.bool false, .int .i64 0, .bool false, .string ByteArray.empty, .int .i64 0], .slice none 0 0], []⟩ 8 (by kernel_rfl) (by kernel_rfl) (by kernel_rfl) (by kernel_rfl)) ?_
  intro W base args ds gs before hval0 hW hcnd hsz0 _
  have hsz : (DataW.weightsEach Try.prog (Try.f3.params.toList ++ Rows.linkPacketsSpec.plain.varTypes Try.prog) (ds ++ gs)).all (· ≤ reachBytes) = true := hsz0
  have hval : ∀ (j : Nat) t v, Try.f3.params[j]? = some t → args[j]? = some v → Value.okWide Try.prog W .any base t v := hval0
  have hW' := hW
  obtain ⟨p, q, hA0, hV, rfl, hfz, hnd⟩ := hW
  have hA : DataW.TrodAll enc Try.prog W 0 (fun _ => true) true Try.f3.params.toList args.toList ds p := hA0
  rw [Try.params3] at hA hval hsz
  obtain ⟨v0, vs0, d0, ds0, p0, q0, hargs, rfl, rfl, h0, r0⟩ := trodAll_cons hA
  obtain ⟨v1, vs1, d1, ds1, p1, q1, rfl, rfl, rfl, h1, r1⟩ := trodAll_cons r0
  obtain ⟨rfl, rfl, rfl⟩ := trodAll_nil r1
  obtain rfl : args = #[v0, v1] := by cases args; simp_all
  obtain ⟨rfl, rfl⟩ := trodVars_none hV
  have k0 := h0
  have lt0 : ∀ x ∈ p0, x.block < W.heap.size := by obtain ⟨m, hm⟩ := k0; exact DataW.trod_lt m _ _ _ hm
  obtain ⟨cs0, rfl, hcs0⟩ := Go.Proofs.YteaefambkagpbaaO.okWide_struct Try.underlying23 (hval 0 23 v0 rfl rfl)
  obtain ⟨⟨x0_0, x0_1, x0_2, x0_3, x0_4⟩, ⟨c0_0, r0_0, e0_0, K0_0, c0_1, r0_1, e0_1, K0_1, c0_2, r0_2, e0_2, K0_2, c0_3, c0_4, e0_3, K0_3, K0_4⟩, ok0_0, ok0_1, ok0_2, ok0_3, ok0_4⟩ := Go.Proofs.YteaefambkagpbaaO.opensW_arg (d := (Go.Proofs.YteaefambkagpbaaW.PrintWords.Kd.pair Go.Proofs.YteaefambkagpbaaW.PrintWords.Kd.bool (Go.Proofs.YteaefambkagpbaaW.PrintWords.Kd.pair (Go.Proofs.YteaefambkagpbaaW.PrintWords.Kd.int .i64) (Go.Proofs.YteaefambkagpbaaW.PrintWords.Kd.pair Go.Proofs.YteaefambkagpbaaW.PrintWords.Kd.bool (Go.Proofs.YteaefambkagpbaaW.PrintWords.Kd.pair Go.Proofs.YteaefambkagpbaaW.PrintWords.Kd.string (Go.Proofs.YteaefambkagpbaaW.PrintWords.Kd.int .i64)))))) (Go.Proofs.YteaefambkagpbaaO.opensW_struct Try.underlying23 (Go.Proofs.YteaefambkagpbaaO.opensF_cons (Go.Proofs.YteaefambkagpbaaO.Opens.w (Go.Proofs.YteaefambkagpbaaO.opens_bool Try.underlying4)) (by kernel_rfl) (Go.Proofs.YteaefambkagpbaaO.opensF_cons (Go.Proofs.YteaefambkagpbaaO.Opens.w (Go.Proofs.YteaefambkagpbaaO.opens_int Try.underlying3)) (by kernel_rfl) (Go.Proofs.YteaefambkagpbaaO.opensF_cons (Go.Proofs.YteaefambkagpbaaO.Opens.w (Go.Proofs.YteaefambkagpbaaO.opens_bool Try.underlying4)) (by kernel_rfl) (Go.Proofs.YteaefambkagpbaaO.opensF_cons (Go.Proofs.YteaefambkagpbaaO.opensW_string Try.underlying9) (by kernel_rfl) (Go.Proofs.YteaefambkagpbaaO.opensF_one (Go.Proofs.YteaefambkagpbaaO.Opens.w (Go.Proofs.YteaefambkagpbaaO.opens_int Try.underlying3)) (by kernel_rfl)))))) (by kernel_rfl)) hsz (j := 0) (t := 23) rfl rfl h0
  obtain rfl := K0_0
  obtain rfl := K0_1
  obtain rfl := K0_2
  obtain rfl := K0_3
  obtain rfl := K0_4
  subst e0_3
  subst e0_2
  subst e0_1
  obtain rfl : cs0 = #[.bool x0_0, .int .i64 x0_1, .bool x0_2, .string x0_3, .int .i64 x0_4] := Array.ext' (by first | exact e0_0 | simpa using e0_0)
  obtain ⟨a1, len1, cap1, rfl⟩ := okWide_slice Try.underlying24 (hval 1 24 v1 rfl rfl)
  have k1 := h1
  have lt1 : ∀ x ∈ p1, x.block < W.heap.size := by obtain ⟨m, hm⟩ := k1; exact DataW.trod_lt m _ _ _ hm
  obtain ⟨z1, w1⟩ : ∃ zs, IsRow .u8 W a1 len1 cap1 zs := by
    obtain ⟨fuel, hf⟩ := h1
    rcases open_ints Try.underlying24 Try.underlying5 (by kernel_rfl) hf with ⟨hcs, _⟩ | ⟨x, l, c, zs, hcs, _, hl, hm, hz, _, hcell, hwz⟩
    · simp [Value.cells] at hcs
      obtain ⟨rfl, rfl, rfl⟩ := hcs
      exact ⟨[], .inl ⟨rfl, rfl, rfl, rfl⟩⟩
    · simp [Value.cells] at hcs
      obtain ⟨rfl, rfl, rfl⟩ := hcs
      exact ⟨zs, .inr ⟨_, rfl, hl, hm, by simpa using hz, hcell, hwz⟩⟩
  have y1 : len1 * 1 ≤ 140737488351232 := Go.Proofs.YteaefambkagpbaaW.PrintWords.sized_ints hsz (j := 1) (t := 24) rfl rfl Try.underlying24 Try.underlying5 (by kernel_rfl) (by kernel_rfl) h1
  obtain ⟨l1, rfl, hr1, hm1, hw1, hc1⟩ := Go.Proofs.YteaefambkagpbaaW.PrintWords.ReadsInt.ofRowC w1
  clear hA0 hval0 hsz0 hsz
  refine (Go.Proofs.YteaefambkagpbaaR.is_tells (Go.Proofs.Yteaefambkagpbaa.F.LinkPackets_c W x0_0 x0_1 x0_2 x0_3 x0_4 a1 cap1 l1 ok0_0 ok0_1 ok0_2 ok0_3 ok0_4 (Go.Proofs.YteaefambkagpbaaW.PrintWords.Kd.C_of_reads (d := (0 : Int)) (h1 := fun _ => rfl) hr1) hc1 hm1 y1 hw1)).mono fun e W' ⟨he, bel⟩ => ?_
  subst he
  exact ⟨_, rfl, _, _, _, [], _, [], hW', trodAll_mk1 (shut_bool Try.underlying4 _), (trodAll_cons_mk (Below.trod laidOut (by kernel_rfl) (of_decide_eq_true (by kernel_rfl)) k0 bel lt0) (trodAll_cons_mk (Below.trod laidOut (by kernel_rfl) (of_decide_eq_true (by kernel_rfl)) k1 bel lt1) trodAll_mk0)), rfl, bel.frame _, fun h => by cases h⟩
theorem over : Rows.linkPacketsRow.holds Try.pinned (OpenSpec.ofChange Rows.linkPacketsSpec) :=
  OpenClaim.holds_of_wide 3 Try.f3 rfl rfl rfl rfl rfl rfl rfl ⟨rfl, rfl, rfl, rfl, rfl⟩ rfl rfl rfl rfl rfl (by kernel_rfl) Try.func3 (by kernel_rfl)
    (of_decide_eq_true (by kernel_rfl)) (by unfold Func.isWrapper; first | (rw [if_pos (by decide +kernel)]; kernel_rfl) | (rw [if_neg (by decide +kernel)]; exact ⟨rfl, rfl⟩))
    (fun os started H enc _ => lifted os started H enc)
end Go.Proofs.Yteaefambkagpbaa.linkPackets
namespace Go.Proofs.Yteaefambkagpbaa
/-- The row, under a short name, for the claim. -/
theorem linkPackets_holds : Rows.LinkPacketsSaid := linkPackets.over
#print axioms linkPackets_holds
end Go.Proofs.Yteaefambkagpbaa
