/- The row of the law AuditCodes: for every input the law's call returns true, whatever memory; no condition. Out of the contract AuditCodes_c. -/
import Derived.Test.YtmifoihfpjomaaaSE
import Derived.SizedLaws
import Derived.ChangeSlices
import Derived.Test.YtmifoihfpjomaaaVArr
import Derived.WideKeyArr2
import Derived.WalkKit
import Derived.ProofKit
import Derived.OpenShut
import Derived.Test.YtmifoihfpjomaaaRows
import Derived.ShutString
import Derived.ChangeOld
import Derived.Below
import Derived.Lib.SmallJoins

-- AuditCodes
namespace Go.Proofs.Ytmifoihfpjomaaa.F
open Go Go.RowKit Go.Proofs.YtmifoihfpjomaaaW.PrintWords Go.Proofs.YtmifoihfpjomaaaW.PrintLast Go.Proofs.YtmifoihfpjomaaaW.PrintMore Go.Proofs.YtmifoihfpjomaaaM Go.Proofs.YtmifoihfpjomaaaR
attribute [local go_sem] max2_int min2_int max_two min_two
set_option linter.unusedSimpArgs false
set_option linter.unusedVariables false
set_option maxRecDepth 100000
theorem decR_ok {l : List Int} (hb : By l) (h : (decR l).2.2.2 = 0) : mayP (decR l).1 (decR l).2.1 (decR l).2.2.1 = true ∧ l = encP (decR l).1 (decR l).2.1 (decR l).2.2.1 := by
  unfold decR at h ⊢
  by_cases h1 : 65536 < l.length
  · rw [if_pos h1] at h; cases h
  · rw [if_neg h1] at h ⊢
    cases hd : decP l with
    | none => rw [hd] at h; cases h
    | some q =>
      obtain ⟨a, b, es⟩ := q
      exact decP_some hb hd
theorem decR_len (l : List Int) : (decR l).2.2.1.length ≤ 8 := by
  unfold decR
  split
  · simp
  · split
    · rename_i a b es hd
      have hm : mayP a b es = true := by
        unfold decP at hd
        simp only at hd
        split at hd
        · rename_i hc
          have h := Option.some.inj hd
          obtain ⟨h1, h2⟩ := Prod.mk.inj h
          obtain ⟨h3, h4⟩ := Prod.mk.inj h2
          rw [← h1, ← h3, ← h4]
          exact hc.2.2.2
        · cases hd
      have := (mayR hm).len
      simp only; omega
    · simp
theorem encP_by (a : ByteArray) (last : Int) (l : List En) : By (encP a last l) := by
  intro x hx
  unfold encP at hx
  rcases List.mem_append.1 hx with hx | hx
  · rcases List.mem_append.1 hx with hx | hx
    · rcases List.mem_append.1 hx with hx | hx
      · exact textL_bytes _ x hx
      · exact putL_bytes _ x hx
    · exact putL_bytes _ x hx
  · obtain ⟨e, _, he⟩ := List.mem_flatMap.1 hx
    exact bytesE_bytes e x he
theorem encP_len {a : ByteArray} {last : Int} {l : List En} (h : mayP a last l = true) : (encP a last l).length ≤ 2000 := by
  have r := mayR h
  have r0 := r.l0; have r1 := r.l1; have r2 := r.len; have r3 := r.sz
  have t1 := putL_ten (n := a.size) (by omega)
  have t2 := putL_ten (n := last.toNat) (by omega)
  have t3 := putL_ten (n := l.length) (by omega)
  have t4 := flatE_len r.good
  unfold encP textL
  simp only [List.length_append, bytesOf_length]
  omega
theorem decR_enc {a : ByteArray} {last : Int} {l : List En} (h : mayP a last l = true) : decR (encP a last l) = (a, last, l, 0) := by
  have := encP_len h
  unfold decR
  rw [if_neg (by omega), decP_enc h]
set_option maxHeartbeats 16000000 in
theorem AuditCodes_c (w : World) (a : ByteArray) (last : Int) (A : Option Addr) (c : Nat) (l : List En) (A1 : Option Addr) (c1 : Nat) (raw : List Int) {Q0 Q1 Q2 Q3 Q4 : Prop} (ok0 : Q0) (ok1 : Q1) (hr : Kd.C k36 w A l.length l) (hc : l.length ≤ c) (ok2 : Q2) (hr1 : Kd.C (Kd.int .u8) w A1 raw.length raw) (hc1 : raw.length ≤ c1) (ok3 : Q3) (ok4 : Q4) (hw1 : ∀ x ∈ raw, (Lit.int .u8 x).wf = true) :
    Calls Try.prog 8 #[.agg #[.string a, .int .i64 last, .slice A l.length c], .slice A1 raw.length c1] w (Tells w (Is (.bool true))) := by
  clear ok0 ok1 ok2 ok3 ok4
  have hby := bytes_of hw1
  obtain ⟨sb, hsb, hsm⟩ := small_c a last l
  have HSM := Lib.hid (fun wx (h : Grew w wx) => hsm wx A c (Kd.C_below hr h) hc)
  have HCA := Lib.hid (fun wx (h : Grew w wx) => Kd.C_below hr h)
  have HMI := Lib.hid (fun wx (h : Grew w wx) (hl : l.length ≤ 40) => mine_c a last A c l wx (Kd.C_below hr h) hc (by omega))
  have HRM := Lib.hid (fun wx (h : Grew w wx) => rmay_c a last A c l wx (Kd.C_below hr h) hc)
  have HRE := Lib.hid (fun wx (h : Grew w wx) (hm : mayP a last l = true) => rencode_c a last A c l wx (Kd.C_below hr h) hc hm)
  have HDE := Lib.hid (fun wx (h : Grew w wx) (hl : raw.length ≤ 70000) => decode_c A1 c1 raw wx (Kd.C_below hr1 h) hc1 (by omega) hby)
  have hbs : bytesOf (strOfNums raw) = raw := bytesOf_str hby
  have HRD := Lib.hid (fun wx (hl : raw.length ≤ 70000) => rdecode_c (strOfNums raw) raw hbs (by omega) hby wx)
  have HSTR := Lib.hid (fun wx (h : Grew w wx) => Kd.C_string (P := Try.prog) (c := c1) Try.underlying45 Try.underlying5 Try.underlying9 (Kd.C_below hr1 h))
  have HBY := Lib.hid hby
  obtain ⟨n, hn⟩ : ∃ n, n = l.length := ⟨_, rfl⟩
  obtain ⟨n1, hn1⟩ : ∃ n1, n1 = raw.length := ⟨_, rfl⟩
  have HSB := Lib.hid hsb
  have HN := Lib.hid hn
  have HN1 := Lib.hid hn1
  rw [← hn] at HSM HCA HMI HRM HRE hc ⊢
  rw [← hn1] at HDE HRD HSTR hc1 ⊢
  obtain ⟨RS, hRS⟩ : ∃ RS, RS = strOfNums raw := ⟨_, rfl⟩
  rw [← hRS] at HRD HSTR
  have HRS := Lib.hid hRS
  obtain ⟨W0, hW0⟩ : ∃ W0, W0 = w.alloc (.cells #[.string a, .int .i64 last, .slice A n c] 24) := ⟨_, rfl⟩
  obtain ⟨H, hH⟩ : ∃ H, H = w.heap.size := ⟨_, rfl⟩
  have hb0 : Blk W0 H 24 [.string a, .int .i64 last, .slice A n c] := by rw [hW0, hH]; exact Blk.new w _ _
  have hg0 : Grew w W0 := by rw [hW0]; exact Grew.alloc _ _
  have HB0 := Lib.hid (fun wx (h : Grew W0 wx) => And.intro ((hb0.grew h).at_ 0) (And.intro ((hb0.grew h).at_ 1) ((hb0.grew h).at_ 2)))
  simp only [List.getElem?_cons_zero, List.getElem?_cons_succ] at HB0
  have HG0 := Lib.hid hg0
  have HWE := Lib.hid hW0
  have HHE := Lib.hid hH
  clear hr hr1 hsm hsb hn hn1 hb0 hg0 hW0 hH hby hw1 hbs hRS
  go_enter Try.func8, Try.ntmps8
  go_wp2_with fail
  rw [← HWE.out, ← HHE.out]
  refine (HSM.out W0 HG0.out).mono ?_
  rintro e w1 ⟨_, rfl, rfl, hg1⟩
  by_cases hgo : sb = true ∧ n1 ≤ 70000
  · obtain ⟨rfl, hn7⟩ := hgo
    have hl40 := HSB.out rfl
    rw [← HN.out] at hl40
    have d1 : decide (70000 < n1) = false := decide_eq_false (by omega)
    have d2 : decide (70000 < (n1 : Int)) = false := decide_eq_false (by omega)
    have HDE := Lib.hid (fun wx (h : Grew w wx) => HDE.out wx h hn7)
    have HRD := Lib.hid (fun wx => HRD.out wx hn7)
    have HMI := Lib.hid (fun wx (h : Grew w wx) => HMI.out wx h hl40)
    obtain ⟨⟨da, db, dl, de⟩, hdr⟩ : ∃ r, r = decR raw := ⟨_, rfl⟩
    rw [← hdr] at HDE HRD
    have HDR := Lib.hid hdr
    have hdl : dl.length ≤ 8 := by have := decR_len raw; rw [← hdr] at this; exact this
    obtain ⟨k, hk⟩ : ∃ k, k = dl.length := ⟨_, rfl⟩
    have HKL := Lib.hid hk
    rw [← hk] at hdl
    clear hdr hk
    go_wp2_with fail
    clear d1 d2
    refine (HDE.out w1 (Grew.trans HG0.out hg1)).mono ?_
    rintro e w2 ⟨_, rfl, ⟨A2, c2, rfl, hc2, hC2⟩, hg2⟩
    simp only at hc2 hC2 ⊢
    rw [← HKL.out] at hc2 hC2 ⊢
    have hg02 := Grew.trans hg1 hg2
    obtain ⟨g5, hg5⟩ : ∃ g5, g5 = w2.heap.size := ⟨_, rfl⟩
    obtain ⟨W2, hW2⟩ : ∃ W2, W2 = w2.alloc (.cells #[.string da, .int .i64 db, .slice A2 k c2] 27) := ⟨_, rfl⟩
    have hb5 : Blk W2 g5 27 [.string da, .int .i64 db, .slice A2 k c2] := by rw [hW2, hg5]; exact Blk.new _ _ _
    have hgr2 : Grew w2 W2 := by rw [hW2]; exact Grew.alloc _ _
    have HB5 := Lib.hid (fun wx (h : Grew W2 wx) => And.intro ((hb5.grew h).at_ 0) (And.intro ((hb5.grew h).at_ 1) ((hb5.grew h).at_ 2)))
    simp only [List.getElem?_cons_zero, List.getElem?_cons_succ] at HB5
    have HC2 := Lib.hid (fun wx (h : Grew W2 wx) => Kd.C_below hC2 (Grew.trans hgr2 h))
    have HG2 := Lib.hid (Grew.trans hg02 hgr2)
    have hst := HSTR.out W2 (Grew.trans HG0.out HG2.out)
    rw [hW2] at hst
    have HW2 := Lib.hid hW2
    have HE5 := Lib.hid hg5
    clear hb5 hgr2 hC2 hW2 hg5 hg1 hg2 hg02
    go_wp2_with fail
    rw [← HW2.out, ← HE5.out]
    clear hst
    refine (HRD.out W2).mono ?_
    rintro e w3 ⟨_, rfl, ⟨A3, c3, rfl, hc3, hC3⟩, hg3⟩
    simp only at hc3 hC3 ⊢
    rw [← HKL.out] at hc3 hC3 ⊢
    obtain ⟨g7, hg7⟩ : ∃ g7, g7 = w3.heap.size := ⟨_, rfl⟩
    obtain ⟨W3, hW3⟩ : ∃ W3, W3 = w3.alloc (.cells #[.string da, .int .i64 db, .slice A3 k c3] 24) := ⟨_, rfl⟩
    have hb7 : Blk W3 g7 24 [.string da, .int .i64 db, .slice A3 k c3] := by rw [hW3, hg7]; exact Blk.new _ _ _
    have hgr3 : Grew w3 W3 := by rw [hW3]; exact Grew.alloc _ _
    have HB7 := Lib.hid (fun wx (h : Grew W3 wx) => And.intro ((hb7.grew h).at_ 0) (And.intro ((hb7.grew h).at_ 1) ((hb7.grew h).at_ 2)))
    simp only [List.getElem?_cons_zero, List.getElem?_cons_succ] at HB7
    have HC3 := Lib.hid (fun wx (h : Grew W3 wx) => Kd.C_below hC3 (Grew.trans hgr3 h))
    have HG23 := Lib.hid (Grew.trans hg3 hgr3)
    have HG3 := Lib.hid (Grew.trans HG2.out (Grew.trans hg3 hgr3))
    have HW3 := Lib.hid hW3
    have HE7 := Lib.hid hg7
    have HSA := Lib.hid (fun wx (h : Grew W3 wx) => same_c da db A2 A3 k c2 c3 dl wx (HC2.out wx (Grew.trans HG23.out h)) (HC3.out wx h) HKL.out.symm hc2 hc3 (by omega))
    clear hb7 hgr3 hC3 hW3 hg7 hg3
    go_wp2_with fail
    rw [← HW3.out, ← HE7.out]
    apply region_grew [Is _, Is _, Is _, Is _, Is _, Is _, Is _, Is _] [([(5, none)], none), ([(35, some 0)], none), ([(7, none)], none), ([(36, some 1), (37, some 2)], none), ([(38, some 3)], none), ([(39, some 4)], none), ([(6, none), (40, some 5)], some (40, false)), ([(8, none), (40, some 5)], some (40, false))] [(35, 0), (36, 1), (37, 2), (38, 3), (39, 4), (40, 5), (41, 6), (42, 7)] rfl (by kernel_rfl) (by kernel_rfl) (show Stable Grew _ from ⟨Is.stable _, Is.stable _, Is.stable _, Is.stable _, Is.stable _, Is.stable _, Is.stable _, Is.stable _, trivial⟩)
    · show OpsHold _ _ _ _ _ _ _ _ _
      refine ⟨fun a_ wx hR hD K hK => ?_, ?_⟩
      · have hG : Grew W3 wx := (Grew.drew _).trans hR
        simp [Deps, Dep, at_, Is] at hD
        obtain ⟨e0, e1, e2⟩ := HB5.out wx (Grew.trans HG23.out hG)
        go_simp
        exact hK _ _ (Grew.refl _) rfl
      refine ⟨fun a_ wx hR hD K hK => ?_, ?_⟩
      · have hG : Grew W3 wx := (Grew.drew _).trans hR
        simp [Deps, Dep, at_, Is] at hD
        go_simp
        have hcn := theirs_c da db A2 k c2 wx
        with_reducible refine hcn.mono ?_
        clear hcn
        rintro e wy ⟨v, rfl, hv, hg⟩
        exact hK _ _ hg hv
      refine ⟨fun a_ wx hR hD K hK => ?_, ?_⟩
      · have hG : Grew W3 wx := (Grew.drew _).trans hR
        simp [Deps, Dep, at_, Is] at hD
        obtain ⟨e0, e1, e2⟩ := HB7.out wx hG
        go_simp
        exact hK _ _ (Grew.refl _) rfl
      refine ⟨fun a_ wx hR hD K hK => ?_, ?_⟩
      · have hG : Grew W3 wx := (Grew.drew _).trans hR
        simp [Deps, Dep, at_, Is] at hD
        obtain ⟨hd0, hd1⟩ := hD
        go_simp
        have hcn := HSA.out wx hG
        with_reducible refine hcn.mono ?_
        clear hcn
        rintro e wy ⟨v, rfl, hv, hg⟩
        exact hK _ _ hg hv
      refine ⟨fun a_ wx hR hD K hK => ?_, ?_⟩
      · have hG : Grew W3 wx := (Grew.drew _).trans hR
        simp [Deps, Dep, at_, Is] at hD
        go_simp
        exact hK _ _ (Grew.refl _) rfl
      refine ⟨fun a_ wx hR hD K hK => ?_, ?_⟩
      · have hG : Grew W3 wx := (Grew.drew _).trans hR
        simp [Deps, Dep, at_, Is] at hD
        go_simp
        exact hK _ _ (Grew.refl _) rfl
      refine ⟨fun a_ wx hR hD => ⟨fun hgd K hK => ?_, fun hgd => ?_⟩, ?_⟩
      · have hG : Grew W3 wx := (Grew.drew _).trans hR
        clear hgd
        simp [Deps, Dep, at_, Is] at hD
        obtain ⟨hd0, hd1⟩ := hD
        go_simp
        exact hK _ _ (Grew.refl _) rfl
      · have hG : Grew W3 wx := (Grew.drew _).trans hR
        exfalso
        simp [Deps, Dep, at_, Is] at hD
        simp_all
      refine ⟨fun a_ wx hR hD => ⟨fun hgd K hK => ?_, fun hgd => ?_⟩, ?_⟩
      · have hG : Grew W3 wx := (Grew.drew _).trans hR
        clear hgd
        simp [Deps, Dep, at_, Is] at hD
        obtain ⟨hd0, hd1⟩ := hD
        go_simp
        exact hK _ _ (Grew.refl _) rfl
      · have hG : Grew W3 wx := (Grew.drew _).trans hR
        exfalso
        simp [Deps, Dep, at_, Is] at hD
        simp_all
      trivial
    · show EndHold _ _ _ _ _ _ _
      refine end_all (xs := [_, _, _, _, _, _, _, _]) ⟨rfl, rfl, rfl, rfl, rfl, rfl, rfl, rfl, trivial⟩ ?_
      rintro w4 hR1 -
      refine ⟨?_⟩
      have hG_w4 : Grew W3 w4 := (Grew.drew _).trans hR1
      clear hR1
      simp only [Act.put, List.setIfInBounds_toArray, List.set_cons_succ, List.set_cons_zero, dropN, putEach]
      have HG35 := Lib.hid hG_w4
      obtain ⟨w5, hw5⟩ : ∃ w5, w5 = w4 := ⟨_, rfl⟩
      subst hw5
      clear hG_w4
      by_cases hde : de = 0
      case' pos =>
        subst hde
        have hok := decR_ok HBY.out (by rw [← HDR.out])
        rw [← HDR.out] at hok
        simp only at hok
        have hen : encA da db dl = (raw, 0) := by unfold encA; rw [hok.1, hok.2]; rfl
        have HEN := Lib.hid (fun wx (h : Grew W2 wx) => encode_c da db A2 c2 dl wx (by rw [← HKL.out]; exact HC2.out wx h) (by rw [← HKL.out]; exact hc2))
        rw [hen, ← HKL.out] at HEN
        clear hok hen
        obtain ⟨b0, b1, b2⟩ := HB5.out w5 (Grew.trans HG23.out HG35.out)
        go_wp2_with fail
        clear b0 b1 b2
        refine (HEN.out w5 (Grew.trans HG23.out HG35.out)).mono ?_
        rintro e wz ⟨_, rfl, ⟨_, rfl, ⟨A9, c9, rfl, hc9, hC9⟩⟩, hg6⟩
        simp only at hc9 hC9 ⊢
        rw [← HN1.out] at hc9 hC9 ⊢
        have s1 := Kd.C_string (P := Try.prog) (c := c9) Try.underlying45 Try.underlying5 Try.underlying9 hC9
        rw [← HRS.out] at s1
        have HGZ := Lib.hid (Grew.trans HG35.out hg6)
        have s2 := HSTR.out wz (Grew.trans HG0.out (Grew.trans HG3.out HGZ.out))
        have s3 : (RS.toList != RS.toList) = false := by simp
        clear hC9 hg6
        obtain ⟨b0, b1, b2⟩ := HB0.out wz (Grew.trans HG3.out HGZ.out)
        go_wp2_with fail
        clear s1 s2 s3 b0 b1 b2
      case' neg =>
        have e1 : (de == 0) = false := by simpa using hde
        have e2 : (de != 0) = true := by simpa using hde
        obtain ⟨wz, hwz⟩ : ∃ wz, wz = w5 := ⟨_, rfl⟩
        subst hwz
        have HGZ := HG35
        obtain ⟨b0, b1, b2⟩ := HB0.out wz (Grew.trans HG3.out HGZ.out)
        go_wp2_with fail
        clear e1 e2 b0 b1 b2
      all_goals
        refine (HMI.out wz (Grew.trans HG0.out (Grew.trans HG3.out HGZ.out))).mono ?_
        rintro e w7 ⟨_, rfl, ⟨Am, cm, rfl, hcm, hCm⟩, hg7⟩
        have HEM := Lib.hid (encode_c a last Am cm l w7 hCm hcm)
        rw [← HN.out] at HEM ⊢
        clear hCm hcm
        go_wp2_with fail
        have HG7 := Lib.hid (Grew.trans HGZ.out hg7)
        clear hg7
        obtain ⟨b, hb⟩ : ∃ b, b = mayP a last l := ⟨_, rfl⟩
        have HBM := Lib.hid hb
        rw [← hb] at HRM
        clear hb
        refine HEM.out.mono ?_
        rintro e w8 ⟨_, rfl, ⟨v9, rfl, hrow9⟩, hg8⟩
        have HG8 := Lib.hid (Grew.trans HG7.out hg8)
        have HG08 := Lib.hid (Grew.trans HG3.out (Grew.trans HG7.out hg8))
        obtain ⟨b0, b1, b2⟩ := HB0.out w8 HG08.out
        cases b with
        | false =>
          have hen : encA a last l = ([], 1) := by unfold encA; rw [← HBM.out]; rfl
          rw [hen] at hrow9 ⊢
          obtain ⟨A9x, c9x, rfl, hc9x, -⟩ := hrow9
          simp only [List.length_nil] at hc9x ⊢
          clear hen hg8
          go_wp2_with fail
          clear b0 b1 b2
          refine (HRM.out w8 (Grew.trans HG0.out HG08.out)).mono ?_
          rintro e w9 ⟨_, rfl, rfl, hg9⟩
          go_wp2_with fail
          refine (lives_c w9).mono ?_
          rintro e w10 ⟨_, rfl, rfl, hg10⟩
          go_wp2_with fail
          go_ret
          exact ⟨_, rfl, rfl, Grew.trans HG0.out (Grew.trans HG08.out (Grew.trans hg9 hg10))⟩
        | true =>
          have hmay : mayP a last l = true := HBM.out.symm
          have hen : encA a last l = (encP a last l, 0) := by unfold encA; rw [hmay]; rfl
          rw [hen] at hrow9 ⊢
          have hel := encP_len hmay
          have heb := encP_by a last l
          have hdd := decR_enc hmay
          obtain ⟨E, hE⟩ : ∃ E, E = encP a last l := ⟨_, rfl⟩
          simp only at hrow9 ⊢
          rw [← hE] at hrow9 hel heb hdd
          have HREE := Lib.hid (fun wx (h : Grew w wx) => HRE.out wx h hmay)
          rw [← hE] at HREE
          obtain ⟨A9x, c9x, rfl, hc9x, hC9x⟩ := hrow9
          have HD2 := Lib.hid (fun wx (h : Grew w8 wx) => decode_c A9x c9x E wx (Kd.C_below hC9x h) hc9x (by omega) heb)
          rw [hdd] at HD2
          have HST9 := Lib.hid (fun wx (h : Grew w8 wx) => Kd.C_string (P := Try.prog) (c := c9x) Try.underlying45 Try.underlying5 Try.underlying9 (Kd.C_below hC9x h))
          obtain ⟨ES, hES⟩ : ∃ ES, ES = strOfNums E := ⟨_, rfl⟩
          rw [← hES] at HST9 HREE
          obtain ⟨ne, hne⟩ : ∃ ne, ne = E.length := ⟨_, rfl⟩
          rw [← hne] at HD2 HST9 ⊢
          clear hmay hen hel heb hdd hE hC9x hc9x hES hne hg8
          go_wp2_with fail
          clear b0 b1 b2
          refine (HRM.out w8 (Grew.trans HG0.out HG08.out)).mono ?_
          rintro e w9 ⟨_, rfl, rfl, hg9⟩
          go_wp2_with fail
          refine (HD2.out w9 hg9).mono ?_
          rintro e w10 ⟨_, rfl, ⟨Az, cz, rfl, hcz, hCz⟩, hg10⟩
          simp only at hcz hCz ⊢
          rw [← HN.out] at hcz hCz ⊢
          obtain ⟨g13, hg13⟩ : ∃ g13, g13 = w10.heap.size := ⟨_, rfl⟩
          obtain ⟨W10, hW10⟩ : ∃ W10, W10 = w10.alloc (.cells #[.string a, .int .i64 last, .slice Az n cz] 27) := ⟨_, rfl⟩
          have hb13 : Blk W10 g13 27 [.string a, .int .i64 last, .slice Az n cz] := by rw [hW10, hg13]; exact Blk.new _ _ _
          have hgr10 : Grew w10 W10 := by rw [hW10]; exact Grew.alloc _ _
          have HB13 := Lib.hid (fun wx (h : Grew W10 wx) => And.intro ((hb13.grew h).at_ 0) (And.intro ((hb13.grew h).at_ 1) ((hb13.grew h).at_ 2)))
          simp only [List.getElem?_cons_zero, List.getElem?_cons_succ] at HB13
          have HG810 := Lib.hid (Grew.trans hg9 (Grew.trans hg10 hgr10))
          have HG010 := Lib.hid (Grew.trans HG08.out (Grew.trans hg9 (Grew.trans hg10 hgr10)))
          have HSZ := Lib.hid (fun wx (h : Grew W10 wx) => same_c a last Az A n cz c l wx (Kd.C_below hCz (Grew.trans hgr10 h)) (HCA.out wx (Grew.trans HG0.out (Grew.trans HG08.out (Grew.trans hg9 (Grew.trans hg10 (Grew.trans hgr10 h)))))) HN.out.symm hcz hc (by omega))
          have HW10 := Lib.hid hW10
          have HE13 := Lib.hid hg13
          clear hb13 hgr10 hCz hW10 hg13 hg9 hg10
          go_wp2_with fail
          rw [← HW10.out, ← HE13.out]
          apply region_grew [Is _, Is _, Is _, Is _, Is _, Is _, Is _, Is _, Is _, Is _, Is _, Is _, Is _, Is _, Is _, Is _, Is _] [([(12, none)], none), ([(85, some 0)], none), ([(86, some 1)], none), ([(11, none), (87, some 2)], some (87, true)), ([(88, some 3), (87, some 2)], some (87, true)), ([(2, none), (87, some 2)], some (87, true)), ([(90, some 5), (87, some 2)], some (87, true)), ([(89, some 4), (91, some 6), (87, some 2)], some (87, true)), ([(87, some 2), (92, some 7)], none), ([(93, some 8)], none), ([(14, none), (94, some 9)], some (94, true)), ([(95, some 10), (94, some 9)], some (94, true)), ([(94, some 9), (96, some 11)], none), ([(97, some 12)], none), ([(13, none), (98, some 13)], some (98, true)), ([(99, some 14), (98, some 13)], some (98, true)), ([(2, none), (98, some 13)], some (98, true))] [(85, 0), (86, 1), (87, 2), (88, 3), (89, 4), (90, 5), (91, 6), (92, 7), (93, 8), (94, 9), (95, 10), (96, 11), (97, 12), (98, 13), (99, 14), (100, 15), (101, 16)] rfl (by kernel_rfl) (by kernel_rfl) (show Stable Grew _ from ⟨Is.stable _, Is.stable _, Is.stable _, Is.stable _, Is.stable _, Is.stable _, Is.stable _, Is.stable _, Is.stable _, Is.stable _, Is.stable _, Is.stable _, Is.stable _, Is.stable _, Is.stable _, Is.stable _, Is.stable _, trivial⟩)
          · show OpsHold _ _ _ _ _ _ _ _ _
            refine ⟨fun a_ wx hR hD K hK => ?_, ?_⟩
            · have hG : Grew W10 wx := (Grew.drew _).trans hR
              simp [Deps, Dep, at_, Is] at hD
              go_simp
              exact hK _ _ (Grew.refl _) rfl
            refine ⟨fun a_ wx hR hD K hK => ?_, ?_⟩
            · have hG : Grew W10 wx := (Grew.drew _).trans hR
              simp [Deps, Dep, at_, Is] at hD
              go_simp
              exact hK _ _ (Grew.refl _) rfl
            refine ⟨fun a_ wx hR hD K hK => ?_, ?_⟩
            · have hG : Grew W10 wx := (Grew.drew _).trans hR
              simp [Deps, Dep, at_, Is] at hD
              go_simp
              exact hK _ _ (Grew.refl _) rfl
            refine ⟨fun a_ wx hR hD => ⟨fun hgd K hK => ?_, fun hgd => ?_⟩, ?_⟩
            · have hG : Grew W10 wx := (Grew.drew _).trans hR
              clear hgd
              simp [Deps, Dep, at_, Is] at hD
              obtain ⟨hd0, hd1⟩ := hD
              go_simp
              exact hK _ _ (Grew.refl _) rfl
            · have hG : Grew W10 wx := (Grew.drew _).trans hR
              exfalso
              simp [Deps, Dep, at_, Is] at hD
              simp_all
            refine ⟨fun a_ wx hR hD => ⟨fun hgd K hK => ?_, fun hgd => ?_⟩, ?_⟩
            · have hG : Grew W10 wx := (Grew.drew _).trans hR
              clear hgd
              simp [Deps, Dep, at_, Is] at hD
              obtain ⟨hd0, hd1⟩ := hD
              have e_ := HST9.out wx (Grew.trans HG810.out hG)
              go_simp
              exact hK _ _ (Grew.refl _) rfl
            · have hG : Grew W10 wx := (Grew.drew _).trans hR
              exfalso
              simp [Deps, Dep, at_, Is] at hD
              simp_all
            refine ⟨fun a_ wx hR hD => ⟨fun hgd K hK => ?_, fun hgd => ?_⟩, ?_⟩
            · have hG : Grew W10 wx := (Grew.drew _).trans hR
              clear hgd
              simp [Deps, Dep, at_, Is] at hD
              obtain ⟨e0, e1, e2⟩ := HB0.out wx (Grew.trans HG010.out hG)
              go_simp
              exact hK _ _ (Grew.refl _) rfl
            · have hG : Grew W10 wx := (Grew.drew _).trans hR
              exfalso
              simp [Deps, Dep, at_, Is] at hD
              simp_all
            refine ⟨fun a_ wx hR hD => ⟨fun hgd K hK => ?_, fun hgd => ?_⟩, ?_⟩
            · have hG : Grew W10 wx := (Grew.drew _).trans hR
              clear hgd
              simp [Deps, Dep, at_, Is] at hD
              obtain ⟨hd0, hd1⟩ := hD
              go_simp
              have hcn := HREE.out wx (Grew.trans HG0.out (Grew.trans HG010.out hG))
              with_reducible refine hcn.mono ?_
              clear hcn
              rintro e wy ⟨v, rfl, hv, hg⟩
              exact hK _ _ hg hv
            · have hG : Grew W10 wx := (Grew.drew _).trans hR
              exfalso
              simp [Deps, Dep, at_, Is] at hD
              simp_all
            refine ⟨fun a_ wx hR hD => ⟨fun hgd K hK => ?_, fun hgd => ?_⟩, ?_⟩
            · have hG : Grew W10 wx := (Grew.drew _).trans hR
              clear hgd
              simp [Deps, Dep, at_, Is] at hD
              obtain ⟨hd0, hd1, hd2⟩ := hD
              go_simp
              exact hK _ _ (Grew.refl _) rfl
            · have hG : Grew W10 wx := (Grew.drew _).trans hR
              exfalso
              simp [Deps, Dep, at_, Is] at hD
              simp_all
            refine ⟨fun a_ wx hR hD K hK => ?_, ?_⟩
            · have hG : Grew W10 wx := (Grew.drew _).trans hR
              simp [Deps, Dep, at_, Is] at hD
              obtain ⟨hd0, hd1⟩ := hD
              go_simp
              exact hK _ _ (Grew.refl _) rfl
            refine ⟨fun a_ wx hR hD K hK => ?_, ?_⟩
            · have hG : Grew W10 wx := (Grew.drew _).trans hR
              simp [Deps, Dep, at_, Is] at hD
              go_simp
              exact hK _ _ (Grew.refl _) rfl
            refine ⟨fun a_ wx hR hD => ⟨fun hgd K hK => ?_, fun hgd => ?_⟩, ?_⟩
            · have hG : Grew W10 wx := (Grew.drew _).trans hR
              clear hgd
              simp [Deps, Dep, at_, Is] at hD
              obtain ⟨hd0, hd1⟩ := hD
              go_simp
              exact hK _ _ (Grew.refl _) rfl
            · have hG : Grew W10 wx := (Grew.drew _).trans hR
              exfalso
              simp [Deps, Dep, at_, Is] at hD
              simp_all
            refine ⟨fun a_ wx hR hD => ⟨fun hgd K hK => ?_, fun hgd => ?_⟩, ?_⟩
            · have hG : Grew W10 wx := (Grew.drew _).trans hR
              clear hgd
              simp [Deps, Dep, at_, Is] at hD
              obtain ⟨hd0, hd1⟩ := hD
              go_simp
              exact hK _ _ (Grew.refl _) rfl
            · have hG : Grew W10 wx := (Grew.drew _).trans hR
              exfalso
              simp [Deps, Dep, at_, Is] at hD
              simp_all
            refine ⟨fun a_ wx hR hD K hK => ?_, ?_⟩
            · have hG : Grew W10 wx := (Grew.drew _).trans hR
              simp [Deps, Dep, at_, Is] at hD
              obtain ⟨hd0, hd1⟩ := hD
              go_simp
              exact hK _ _ (Grew.refl _) rfl
            refine ⟨fun a_ wx hR hD K hK => ?_, ?_⟩
            · have hG : Grew W10 wx := (Grew.drew _).trans hR
              simp [Deps, Dep, at_, Is] at hD
              go_simp
              exact hK _ _ (Grew.refl _) rfl
            refine ⟨fun a_ wx hR hD => ⟨fun hgd K hK => ?_, fun hgd => ?_⟩, ?_⟩
            · have hG : Grew W10 wx := (Grew.drew _).trans hR
              clear hgd
              simp [Deps, Dep, at_, Is] at hD
              obtain ⟨e0, e1, e2⟩ := HB13.out wx hG
              go_simp
              exact hK _ _ (Grew.refl _) rfl
            · have hG : Grew W10 wx := (Grew.drew _).trans hR
              exfalso
              simp [Deps, Dep, at_, Is] at hD
              simp_all
            refine ⟨fun a_ wx hR hD => ⟨fun hgd K hK => ?_, fun hgd => ?_⟩, ?_⟩
            · have hG : Grew W10 wx := (Grew.drew _).trans hR
              clear hgd
              simp [Deps, Dep, at_, Is] at hD
              obtain ⟨hd0, hd1⟩ := hD
              go_simp
              have hcn := theirs_c a last Az n cz wx
              with_reducible refine hcn.mono ?_
              clear hcn
              rintro e wy ⟨v, rfl, hv, hg⟩
              exact hK _ _ hg hv
            · have hG : Grew W10 wx := (Grew.drew _).trans hR
              exfalso
              simp [Deps, Dep, at_, Is] at hD
              simp_all
            refine ⟨fun a_ wx hR hD => ⟨fun hgd K hK => ?_, fun hgd => ?_⟩, ?_⟩
            · have hG : Grew W10 wx := (Grew.drew _).trans hR
              clear hgd
              simp [Deps, Dep, at_, Is] at hD
              obtain ⟨e0, e1, e2⟩ := HB0.out wx (Grew.trans HG010.out hG)
              go_simp
              exact hK _ _ (Grew.refl _) rfl
            · have hG : Grew W10 wx := (Grew.drew _).trans hR
              exfalso
              simp [Deps, Dep, at_, Is] at hD
              simp_all
            trivial
          · show EndHold _ _ _ _ _ _ _
            refine end_all (xs := [_, _, _, _, _, _, _, _, _, _, _, _, _, _, _, _, _]) ⟨rfl, rfl, rfl, rfl, rfl, rfl, rfl, rfl, rfl, rfl, rfl, rfl, rfl, rfl, rfl, rfl, rfl, trivial⟩ ?_
            rintro w11 hR1 -
            refine ⟨?_⟩
            have hG_w11 : Grew W10 w11 := (Grew.drew _).trans hR1
            clear hR1
            simp only [Act.put, List.setIfInBounds_toArray, List.set_cons_succ, List.set_cons_zero, dropN, putEach]
            go_wp2_with fail
            refine (HSZ.out w11 hG_w11).mono ?_
            rintro e w12 ⟨_, rfl, rfl, hg12⟩
            go_wp2_with fail
            refine (lives_c w12).mono ?_
            rintro e w13 ⟨_, rfl, rfl, hg13⟩
            go_wp2_with fail
            go_ret
            exact ⟨_, rfl, rfl, Grew.trans HG0.out (Grew.trans HG010.out (Grew.trans hG_w11 (Grew.trans hg12 hg13)))⟩
  · have hsl : sb = false ∨ (sb = true ∧ ¬ n1 ≤ 70000) := by
      cases sb with
      | false => exact .inl rfl
      | true => exact .inr ⟨rfl, fun h => hgo ⟨rfl, h⟩⟩
    clear hgo
    rcases hsl with rfl | ⟨rfl, h7⟩
    · go_wp2_with fail
      refine (lives_c w1).mono ?_
      rintro e w2 ⟨_, rfl, rfl, hg2⟩
      go_wp2_with fail
      go_ret
      exact ⟨_, rfl, rfl, Grew.trans HG0.out (Grew.trans hg1 hg2)⟩
    · have d1 : decide (70000 < n1) = true := decide_eq_true (by omega)
      have d2 : decide (70000 < (n1 : Int)) = true := decide_eq_true (by omega)
      go_wp2_with fail
      refine (lives_c w1).mono ?_
      rintro e w2 ⟨_, rfl, rfl, hg2⟩
      go_wp2_with fail
      go_ret
      exact ⟨_, rfl, rfl, Grew.trans HG0.out (Grew.trans hg1 hg2)⟩
end Go.Proofs.Ytmifoihfpjomaaa.F

-- WSized
-- PRINTED BY print.sh 35421559b90ae4d0a3588c463048766b98c2df88dd9212a6774a882060cdf62d: not written by this session
-- PRINTED WORDS (module Derived/Print/Sized.lean): go-gate-2's, for the rows of laws over slices: an AI agent of Go's test side, Tue Nov 17 2026; no person has read it. Lean checks it.
namespace Go.Proofs.YtmifoihfpjomaaaW.PrintWords
open Go.ChangeShapes Go.WideShapes
/-- A row's slice of whole numbers is no longer than its weight allows. -/
theorem sized_ints {H : Type} {enc : TypeId × Value → H} {P : Program} {W : World} {base : Nat} {spare : Nat → Bool} {held : Bool} {t e : TypeId} {k : IntKind} {a : Option Addr} {len cap : Nat} {d : DataW H} {ps : List MemPlace} {ts : List TypeId} {ds : List (DataW H)} {j : Nat}
    (hsz : (DataW.weightsEach P ts ds).all (· ≤ reachBytes) = true) (ht : ts[j]? = some t) (hd : ds[j]? = some d) (hu : P.underlying t = some (.slice e)) (he : P.underlying e = some (.int k)) (hc : P.cellsOf e = 1) {B : Nat} (hB : P.bytesOf e = B)
    (h : DataW.Trod enc P W base spare held t (.slice a len cap) d ps) : len * B ≤ 140737488351232 := by
  obtain ⟨fuel, hf⟩ := h
  rcases open_ints hu he hc hf with ⟨hcs, _⟩ | ⟨x, l, c, zs, hcs, _, hl, _, hz, hx, _, _⟩
  · simp [Value.cells] at hcs
    obtain ⟨rfl, rfl, rfl⟩ := hcs
    simp
  · simp [Value.cells] at hcs
    obtain ⟨rfl, rfl, rfl⟩ := hcs
    obtain ⟨hx, _⟩ := Prod.mk.inj hx
    subst hx
    have z := sized_slice hsz ht hd hu
    rw [hB] at z
    have hl2 : len ≤ zs.length := by
      rw [hz]
      split
      · exact hl
      · exact Nat.le_refl _
    have h1 : (lits (H := H) k (zs.take len)).length + (lits (H := H) k (zs.drop len)).length = zs.length := by
      simp [lits]
      omega
    rw [h1] at z
    exact Nat.le_trans (Nat.mul_le_mul_right _ hl2) z
end Go.Proofs.YtmifoihfpjomaaaW.PrintWords

-- Open
namespace Go.Proofs.YtmifoihfpjomaaaO
set_option linter.unusedSimpArgs false
open Go Go.RowKit Go.ChangeShapes Go.WideShapes Go.ChangeAt Go.Proofs.YtmifoihfpjomaaaW.PrintWords
/-- cells of type t that can be read as data are some x of kind d -/
def Opens {α : Type} (P : Program) (t : TypeId) (d : Kd α) (ok : α → Prop) : Prop :=
  ∀ (H : Type) (enc : TypeId × Value → H) (W : World) (sp : Nat → Bool) (held : Bool) (fuel : Nat) (cs : List Value) (y : DataW H × List MemPlace), DataW.trod enc P W 0 sp held fuel t cs = some y → ∃ x, d.K W x cs ∧ ok x
section
variable {P : Program} {α : Type}
theorem opens_int {t : TypeId} {k : IntKind} (hu : P.underlying t = some (.int k)) : Opens P t (Kd.int k) (fun x => (Lit.int k x).wf = true) := by
  intro H enc W sp held fuel cs y h
  cases fuel with
  | zero => simp [DataW.trod] at h
  | succ n =>
    have key : ∃ n', cs = [.int k n'] ∧ (Lit.int k n').wf = true := by
      simp only [DataW.trod, hu] at h
      split at h <;> simp_all
    obtain ⟨x, rfl, hx⟩ := key
    exact ⟨x, rfl, hx⟩
theorem opens_bool {t : TypeId} (hu : P.underlying t = some .bool) : Opens P t Kd.bool (fun _ => True) := by
  intro H enc W sp held fuel cs y h
  cases fuel with
  | zero => simp [DataW.trod] at h
  | succ n =>
    have key : ∃ b, cs = [.bool b] := by
      simp only [DataW.trod, hu] at h
      split at h <;> simp_all
    obtain ⟨x, rfl⟩ := key
    exact ⟨x, rfl, trivial⟩
theorem opens_string {t : TypeId} (hu : P.underlying t = some .string) : Opens P t Kd.string (fun s => s.size ≤ maxLen) := by
  intro H enc W sp held fuel cs y h
  cases fuel with
  | zero => simp [DataW.trod] at h
  | succ n =>
    simp only [DataW.trod, hu] at h
    split at h <;> simp_all
    exact ⟨_, rfl, h.1⟩
theorem mapM_get {β γ : Type} {f : β → Option γ} : ∀ {l : List β} {ys : List γ}, l.mapM f = some ys → ys.length = l.length ∧ ∀ (i : Nat) (x : β), l[i]? = some x → ∃ y, f x = some y
  | [], ys, h => by simp at h; subst h; simp
  | a :: l, ys, h => by
    simp only [List.mapM_cons] at h
    obtain ⟨b, hb, h⟩ := Option.bind_eq_some_iff.1 h
    obtain ⟨bs, hbs, h⟩ := Option.bind_eq_some_iff.1 h
    simp at h
    subst h
    have ih := mapM_get hbs
    refine ⟨by simp [ih.1], fun i x hx => ?_⟩
    cases i with
    | zero => simp at hx; subst hx; exact ⟨b, hb⟩
    | succ i => simp at hx; exact ih.2 i x hx
theorem choose_list {ok : α → Prop} {Q : Nat → α → Prop} : ∀ n : Nat, (∀ i, i < n → ∃ x, Q i x ∧ ok x) → ∃ xs : List α, xs.length = n ∧ (∀ (i : Nat) (x : α), xs[i]? = some x → Q i x) ∧ ∀ x ∈ xs, ok x
  | 0, _ => ⟨[], rfl, by simp, by simp⟩
  | n + 1, h => by
    obtain ⟨xs, h1, h2, h3⟩ := choose_list n (fun i hi => h i (by omega))
    obtain ⟨x, hx, hk⟩ := h n (by omega)
    refine ⟨xs ++ [x], by simp [h1], fun i y hy => ?_, fun y hy => ?_⟩
    · rcases Nat.lt_or_ge i n with hlt | hge
      · rw [List.getElem?_append_left (by omega)] at hy; exact h2 i y hy
      · rw [List.getElem?_append_right (by omega)] at hy
        have : i = n := by
          rcases Nat.lt_or_ge n i with h' | h'
          · rw [List.getElem?_eq_none (by simp; omega)] at hy; cases hy
          · omega
        subst this
        simp [h1] at hy
        subst hy; exact hx
    · rcases List.mem_append.1 hy with hy | hy
      · exact h3 y hy
      · simp at hy; subst hy; exact hk
theorem cells_get {W : World} {a : Addr} {n : Nat} {cs : List Value} (h : W.cells? 0 a n = some cs) : cs.length = n ∧ ∀ (i : Nat) (u : Value), cs[i]? = some u → W.cell? (a.add i) = some u := by
  unfold World.cells? at h
  rw [if_pos (Nat.zero_le _)] at h
  have h1 := mapM_get h
  refine ⟨by simpa using h1.1, fun i u hu => ?_⟩
  have hi : i < n := by
    have := (List.getElem?_eq_some_iff.1 hu).1
    rw [h1.1] at this; simpa using this
  obtain ⟨y, hy⟩ := h1.2 i i (by simp [hi])
  have key : ∀ (l : List Nat) (ys : List Value), l.mapM (fun i => W.cell? (a.add i)) = some ys → ∀ (j : Nat), ys[j]? = (l[j]?).bind fun i => W.cell? (a.add i) := by
    intro l
    induction l with
    | nil => intro ys h j; simp at h; subst h; simp
    | cons b l ih =>
      intro ys h j
      simp only [List.mapM_cons] at h
      obtain ⟨c, hc, h⟩ := Option.bind_eq_some_iff.1 h
      obtain ⟨cs', hcs, h⟩ := Option.bind_eq_some_iff.1 h
      simp at h; subst h
      cases j with
      | zero => simp [hc]
      | succ j => simpa using ih cs' hcs j
  have := key _ _ h i
  rw [hu] at this
  simp [hi] at this
  exact this.symm
theorem opens_slice {t e : TypeId} {d : Kd α} {ok : α → Prop} (hu : P.underlying t = some (.slice e)) (he : Opens P e d ok) (hc : P.cellsOf e = d.sz) : Opens P t (Kd.slice e d) (fun xs => ∀ x ∈ xs, ok x) := by
  intro H enc W sp held fuel cs y h
  cases fuel with
  | zero => simp [DataW.trod] at h
  | succ n =>
    have key : cs = [.slice none 0 0] ∨ ∃ a len cap, cs = [.slice (some a) len cap] ∧ len ≤ cap ∧ cap ≤ maxLen ∧ ∃ elems, (List.range len).mapM (fun i => (W.cells? 0 (a.add (i * P.cellsOf e)) (P.cellsOf e)).bind (DataW.trod enc P W 0 sp held n e)) = some elems := by
      simp only [DataW.trod, hu] at h
      split at h <;> try (simp_all; done)
      rename_i e' a len cap heq
      simp only [Option.some.injEq, TypeDesc.slice.injEq] at heq
      subst heq
      split at h
      · rename_i hb
        obtain ⟨elems, he1, _⟩ := Option.bind_eq_some_iff.1 h
        exact .inr ⟨a, len, cap, rfl, hb.2.1, hb.2.2, elems, he1⟩
      · cases h
    rcases key with rfl | ⟨a, len, cap, rfl, h1, h2, elems, he1⟩
    · exact ⟨[], ⟨none, 0, rfl, by simp, by simp [Kd.C, ReadsRow]⟩, by simp⟩
    · rw [hc] at he1
      have hm := mapM_get he1
      obtain ⟨xs, x1, x2, x3⟩ := choose_list (ok := ok) (Q := fun i x => ∃ c, W.cells? 0 (a.add (i * d.sz)) d.sz = some c ∧ d.K W x c) len (fun i hi => by
        obtain ⟨z, hz⟩ := hm.2 i i (by simp [hi])
        obtain ⟨c, hc1, hc2⟩ := Option.bind_eq_some_iff.1 hz
        obtain ⟨x, hx, hk⟩ := he H enc W sp held n c z hc2
        exact ⟨x, ⟨c, hc1, hx⟩, hk⟩)
      refine ⟨xs, ⟨some a, cap, by rw [x1], by omega, ?_⟩, x3⟩
      refine ⟨rfl, by have : maxLen = 9223372036854775807 := rfl; omega, fun _ => ⟨a, rfl, fun j p hp => ?_⟩⟩
      obtain ⟨c, hc1, hk⟩ := x2 j p hp
      have hg := cells_get hc1
      refine ⟨c, hg.1, hk, fun i u hiu => ?_⟩
      have := hg.2 i u hiu
      rw [← this]
      congr 1
      unfold Addr.add
      by_cases z1 : j * d.sz = 0
      · rw [if_pos z1]
        by_cases z2 : i = 0
        · simp [z1, z2]
        · rw [if_neg (by omega), if_neg z2]; simp [z1]
      · rw [if_neg z1, if_neg (by omega)]
        by_cases z2 : i = 0
        · simp [z2]
        · rw [if_neg z2]; simp [Nat.add_assoc]
theorem opens_array {t e n : Nat} {d : Kd α} {ok : α → Prop} (hs : 0 < d.sz) (hu : P.underlying t = some (.array n e)) (he : Opens P e d ok) (hc : P.cellsOf e = d.sz) (ht : P.cellsOf t = n * d.sz) : Opens P t (Kd.arr n d hs) (fun xs => ∀ x ∈ xs, ok x) := by
  intro H enc W sp held fuel cs y h
  cases fuel with
  | zero => simp [DataW.trod] at h
  | succ m =>
    simp only [DataW.trod, hu] at h
    split at h
    · rename_i hl
      obtain ⟨ys, hy, _⟩ := Option.map_eq_some_iff.1 h
      have hm := mapM_get hy
      obtain ⟨xs, x1, x2, x3⟩ := choose_list (ok := ok) (Q := fun i x => d.K W x ((cs.drop (i * d.sz)).take d.sz)) n (fun i hi => by
        obtain ⟨z, hz⟩ := hm.2 i i (by simp [hi])
        rw [hc] at hz
        exact he H enc W sp held m _ z hz)
      exact ⟨xs, ⟨x1, by rw [x1, hl, ht], x2⟩, x3⟩
    · cases h
/-- an argument of a kind -/
theorem opens_arg {t : TypeId} {d : Kd α} {ok : α → Prop} (ho : Opens P t d ok) {H : Type} {enc : TypeId × Value → H} {W : World} {sp : Nat → Bool} {held : Bool} {v : Value} {y : DataW H} {ps : List MemPlace} (h : DataW.Trod enc P W 0 sp held t v y ps) : ∃ x, d.K W x v.cells.toList ∧ ok x := by
  obtain ⟨fuel, hf⟩ := h
  exact ho H enc W sp held fuel _ _ hf
theorem okWide_array {t n e : Nat} {r : Reach} {b0 : Nat} {v : Value} {W : World} (hu : P.underlying t = some (.array n e)) (h : Value.okWide P W r b0 t v) : ∃ cs, v = .agg cs ∧ cs.size = P.cellsOf t := by
  simp only [Value.okWide, hu] at h
  obtain ⟨cs, h1, h2, _⟩ := h
  exact ⟨cs, h1, h2⟩
theorem arr2 {d : Kd α} {hs : 0 < d.sz} (h1 : d.sz = 1) {W : World} {x : List α} {cs : Array Value} (h : (Kd.arr 2 d hs).K W x cs.toList) : ∃ a b c0 c1, x = [a, b] ∧ cs = #[c0, c1] ∧ d.K W a [c0] ∧ d.K W b [c1] := by
  obtain ⟨hl, hc, hr⟩ := h
  rw [hl, h1] at hc
  obtain ⟨l⟩ := cs
  match x, hl, l, hc, hr with
  | [a, b], _, [c0, c1], _, hr => exact ⟨a, b, c0, c1, rfl, rfl, by have := hr 0 a rfl; rw [h1] at this; exact this, by have := hr 1 b rfl; rw [h1] at this; exact this⟩
theorem arr3 {d : Kd α} {hs : 0 < d.sz} (h1 : d.sz = 1) {W : World} {x : List α} {cs : Array Value} (h : (Kd.arr 3 d hs).K W x cs.toList) : ∃ a b c c0 c1 c2, x = [a, b, c] ∧ cs = #[c0, c1, c2] ∧ d.K W a [c0] ∧ d.K W b [c1] ∧ d.K W c [c2] := by
  obtain ⟨hl, hc, hr⟩ := h
  rw [hl, h1] at hc
  obtain ⟨l⟩ := cs
  match x, hl, l, hc, hr with
  | [a, b, c], _, [c0, c1, c2], _, hr => exact ⟨a, b, c, c0, c1, c2, rfl, rfl, by have := hr 0 a rfl; rw [h1] at this; exact this, by have := hr 1 b rfl; rw [h1] at this; exact this, by have := hr 2 c rfl; rw [h1] at this; exact this⟩
end
end Go.Proofs.YtmifoihfpjomaaaO

-- OpenW
namespace Go.Proofs.YtmifoihfpjomaaaO
set_option linter.unusedSimpArgs false
open Go Go.RowKit Go.ChangeShapes Go.WideShapes Go.ChangeAt Go.Proofs.YtmifoihfpjomaaaW.PrintWords
/-- cells of type t that can be read as data of no more weight than is reached are some x of kind d -/
def OpensW {α : Type} (P : Program) (t : TypeId) (d : Kd α) (ok : α → Prop) : Prop :=
  ∀ (H : Type) (enc : TypeId × Value → H) (W : World) (sp : Nat → Bool) (held : Bool) (fuel : Nat) (cs : List Value) (y : DataW H × List MemPlace), DataW.trod enc P W 0 sp held fuel t cs = some y → (∀ n ∈ y.1.weights P t, n ≤ reachBytes) → ∃ x, d.K W x cs ∧ ok x
section
variable {P : Program} {α : Type}
theorem Opens.w {t : TypeId} {d : Kd α} {ok : α → Prop} (h : Opens P t d ok) : OpensW P t d ok := fun H enc W sp held fuel cs y hy _ => h H enc W sp held fuel cs y hy
theorem opensW_string {t : TypeId} (hu : P.underlying t = some .string) : OpensW P t Kd.string (fun s => s.size ≤ 140737488351232) := by
  intro H enc W sp held fuel cs y h hw
  cases fuel with
  | zero => simp [DataW.trod] at h
  | succ n =>
    have key : ∃ s, cs = [.string s] ∧ y.1 = .lit (.string s.data.toList) := by
      simp only [DataW.trod, hu] at h
      split at h <;> simp_all
      rw [← h.2]
    obtain ⟨s, rfl, hy⟩ := key
    refine ⟨s, rfl, ?_⟩
    have := hw s.size (by rw [hy]; simp [DataW.weights])
    exact this
theorem mapM_mem {β γ : Type} {f : β → Option γ} : ∀ {l : List β} {ys : List γ}, l.mapM f = some ys → ∀ (x : β) (z : γ), x ∈ l → f x = some z → z ∈ ys
  | [], ys, h, x, z, hx, _ => by simp at hx
  | a :: l, ys, h, x, z, hx, hz => by
    simp only [List.mapM_cons] at h
    obtain ⟨b, hb, h⟩ := Option.bind_eq_some_iff.1 h
    obtain ⟨bs, hbs, h⟩ := Option.bind_eq_some_iff.1 h
    simp at h
    subst h
    rcases List.mem_cons.1 hx with rfl | hx
    · rw [hb] at hz; injection hz with hz; subst hz; simp
    · exact List.mem_cons_of_mem _ (mapM_mem hbs x z hx hz)
theorem weightsAll_mem {H : Type} {e : TypeId} {d : DataW H} {n : Nat} : ∀ {ds : List (DataW H)}, d ∈ ds → n ∈ d.weights P e → n ∈ DataW.weightsAll P e ds
  | [], h, _ => by simp at h
  | a :: ds, h, hn => by
    simp only [DataW.weightsAll]
    rcases List.mem_cons.1 h with rfl | h
    · exact List.mem_append_left _ hn
    · exact List.mem_append_right _ (weightsAll_mem h hn)
theorem opensW_slice {t e : TypeId} {d : Kd α} {ok : α → Prop} (hu : P.underlying t = some (.slice e)) (he : OpensW P e d ok) (hc : P.cellsOf e = d.sz) : OpensW P t (Kd.slice e d) (fun xs => ∀ x ∈ xs, ok x) := by
  intro H enc W sp held fuel cs y h hw
  cases fuel with
  | zero => simp [DataW.trod] at h
  | succ n =>
    have key : cs = [.slice none 0 0] ∨ ∃ a len cap, cs = [.slice (some a) len cap] ∧ len ≤ cap ∧ cap ≤ maxLen ∧ ∃ elems rest, (List.range len).mapM (fun i => (W.cells? 0 (a.add (i * P.cellsOf e)) (P.cellsOf e)).bind (DataW.trod enc P W 0 sp held n e)) = some elems ∧ y.1 = .slice (elems.map (·.1)) rest := by
      simp only [DataW.trod, hu] at h
      split at h <;> try (simp_all; done)
      rename_i e' a len cap heq
      simp only [Option.some.injEq, TypeDesc.slice.injEq] at heq
      subst heq
      split at h
      · rename_i hb
        obtain ⟨elems, he1, h⟩ := Option.bind_eq_some_iff.1 h
        obtain ⟨rest, _, h⟩ := Option.map_eq_some_iff.1 h
        refine .inr ⟨a, len, cap, rfl, hb.2.1, hb.2.2, elems, rest.map (·.1), he1, ?_⟩
        rw [← h]
      · cases h
    rcases key with rfl | ⟨a, len, cap, rfl, h1, h2, elems, rest, he1, hy⟩
    · exact ⟨[], ⟨none, 0, rfl, by simp, by simp [Kd.C, ReadsRow]⟩, by simp⟩
    · rw [hc] at he1
      have hm := mapM_get he1
      obtain ⟨xs, x1, x2, x3⟩ := choose_list (ok := ok) (Q := fun i x => ∃ c, W.cells? 0 (a.add (i * d.sz)) d.sz = some c ∧ d.K W x c) len (fun i hi => by
        obtain ⟨z, hz⟩ := hm.2 i i (by simp [hi])
        have hmem := mapM_mem he1 i z (by simp [hi]) hz
        obtain ⟨c, hc1, hc2⟩ := Option.bind_eq_some_iff.1 hz
        obtain ⟨x, hx, hk⟩ := he H enc W sp held n c z hc2 (fun q hq => hw q (by
          rw [hy]
          simp only [DataW.weights, hu]
          exact List.mem_cons_of_mem _ (List.mem_append_left _ (weightsAll_mem (List.mem_map_of_mem hmem) hq))))
        exact ⟨x, ⟨c, hc1, hx⟩, hk⟩)
      refine ⟨xs, ⟨some a, cap, by rw [x1], by omega, ?_⟩, x3⟩
      refine ⟨rfl, by have : maxLen = 9223372036854775807 := rfl; omega, fun _ => ⟨a, rfl, fun j p hp => ?_⟩⟩
      obtain ⟨c, hc1, hk⟩ := x2 j p hp
      have hg := cells_get hc1
      refine ⟨c, hg.1, hk, fun i u hiu => ?_⟩
      have := hg.2 i u hiu
      rw [← this]
      congr 1
      unfold Addr.add
      by_cases z1 : j * d.sz = 0
      · rw [if_pos z1]
        by_cases z2 : i = 0
        · simp [z1, z2]
        · rw [if_neg (by omega), if_neg z2]; simp [z1]
      · rw [if_neg z1, if_neg (by omega)]
        by_cases z2 : i = 0
        · simp [z2]
        · rw [if_neg z2]; simp [Nat.add_assoc]
theorem opensW_array {t e n : Nat} {d : Kd α} {ok : α → Prop} (hs : 0 < d.sz) (hu : P.underlying t = some (.array n e)) (he : OpensW P e d ok) (hc : P.cellsOf e = d.sz) (ht : P.cellsOf t = n * d.sz) : OpensW P t (Kd.arr n d hs) (fun xs => ∀ x ∈ xs, ok x) := by
  intro H enc W sp held fuel cs y h hw
  cases fuel with
  | zero => simp [DataW.trod] at h
  | succ m =>
    simp only [DataW.trod, hu] at h
    split at h
    · rename_i hl
      obtain ⟨ys, hy, hyy⟩ := Option.map_eq_some_iff.1 h
      have hm := mapM_get hy
      obtain ⟨xs, x1, x2, x3⟩ := choose_list (ok := ok) (Q := fun i x => d.K W x ((cs.drop (i * d.sz)).take d.sz)) n (fun i hi => by
        obtain ⟨z, hz⟩ := hm.2 i i (by simp [hi])
        have hmem := mapM_mem hy i z (by simp [hi]) hz
        rw [hc] at hz
        exact he H enc W sp held m _ z hz (fun q hq => hw q (by
          rw [← hyy]
          simp only [DataW.weights, hu]
          exact weightsAll_mem (List.mem_map_of_mem hmem) hq)))
      exact ⟨xs, ⟨x1, by rw [x1, hl, ht], x2⟩, x3⟩
    · cases h
/-- an argument of a kind -/
theorem opensW_arg {t : TypeId} {d : Kd α} {ok : α → Prop} (ho : OpensW P t d ok) {H : Type} {enc : TypeId × Value → H} {W : World} {sp : Nat → Bool} {held : Bool} {v : Value} {y : DataW H} {ps : List MemPlace} {ts : List TypeId} {ds : List (DataW H)} {j : Nat}
    (hsz : (DataW.weightsEach P ts ds).all (· ≤ reachBytes) = true) (ht : ts[j]? = some t) (hd : ds[j]? = some y) (h : DataW.Trod enc P W 0 sp held t v y ps) : ∃ x, d.K W x v.cells.toList ∧ ok x := by
  obtain ⟨fuel, hf⟩ := h
  exact ho H enc W sp held fuel _ _ hf (fun n hn => by
    have := List.all_eq_true.1 hsz _ (DataW.weights_mem_each ht hd n hn)
    simpa using this)
end
end Go.Proofs.YtmifoihfpjomaaaO

-- OpenS
namespace Go.Proofs.YtmifoihfpjomaaaO
set_option linter.unusedSimpArgs false
open Go Go.RowKit Go.ChangeShapes Go.WideShapes Go.ChangeAt Go.Proofs.YtmifoihfpjomaaaW.PrintWords
section
variable {P : Program} {α β : Type}
/-- the fields from a place on -/
def OpensF (P : Program) (fs : List Field) (off : Nat) (d : Kd α) (ok : α → Prop) : Prop :=
  ∀ (H : Type) (enc : TypeId × Value → H) (W : World) (sp : Nat → Bool) (held : Bool) (fuel : Nat) (cs : List Value) (ys : List (DataW H × List MemPlace)),
    fs.mapM (fun f => DataW.trod enc P W 0 sp held fuel f.type ((cs.drop f.offset).take (P.cellsOf f.type))) = some ys → (∀ n ∈ DataW.weightsEach P (fs.map (·.type)) (ys.map (·.1)), n ≤ reachBytes) →
    ∃ x, d.K W x ((cs.drop off).take d.sz) ∧ ok x
theorem opensF_one {f : Field} {d : Kd α} {ok : α → Prop} (h : OpensW P f.type d ok) (hc : P.cellsOf f.type = d.sz) : OpensF P [f] f.offset d ok := by
  intro H enc W sp held fuel cs ys hy hw
  simp only [List.mapM_cons, List.mapM_nil] at hy
  obtain ⟨y, hy1, hy⟩ := Option.bind_eq_some_iff.1 hy
  simp at hy
  subst hy
  rw [hc] at hy1
  exact h H enc W sp held fuel _ y hy1 fun n hn => hw n (by simp [DataW.weightsEach, hn])
theorem opensF_cons {f : Field} {fs : List Field} {d : Kd α} {d2 : Kd β} {ok : α → Prop} {ok2 : β → Prop} (h : OpensW P f.type d ok) (hc : P.cellsOf f.type = d.sz) (h2 : OpensF P fs (f.offset + d.sz) d2 ok2) :
    OpensF P (f :: fs) f.offset (Kd.pair d d2) (fun x => ok x.1 ∧ ok2 x.2) := by
  intro H enc W sp held fuel cs ys hy hw
  simp only [List.mapM_cons] at hy
  obtain ⟨y, hy1, hy⟩ := Option.bind_eq_some_iff.1 hy
  obtain ⟨ys2, hy2, hy⟩ := Option.bind_eq_some_iff.1 hy
  simp at hy
  subst hy
  rw [hc] at hy1
  obtain ⟨x1, k1, o1⟩ := h H enc W sp held fuel _ y hy1 fun n hn => hw n (by simp [DataW.weightsEach, hn])
  obtain ⟨x2, k2, o2⟩ := h2 H enc W sp held fuel cs ys2 hy2 fun n hn => hw n (by
    simp only [List.map_cons, DataW.weightsEach]
    exact List.mem_append_right _ hn)
  refine ⟨(x1, x2), ⟨_, _, ?_, k1, k2⟩, o1, o2⟩
  show (cs.drop f.offset).take (d.sz + d2.sz) = _
  rw [List.take_add, List.drop_drop]
theorem opensW_struct {t : TypeId} {fs : Array Field} {d : Kd α} {ok : α → Prop} (hu : P.underlying t = some (.struct fs)) (h : OpensF P fs.toList 0 d ok) (hc : P.cellsOf t = d.sz) : OpensW P t d ok := by
  intro H enc W sp held fuel cs y hy hw
  cases fuel with
  | zero => simp [DataW.trod] at hy
  | succ n =>
    have key : cs.length = P.cellsOf t ∧ ∃ ys, fs.toList.mapM (fun f => DataW.trod enc P W 0 sp held n f.type ((cs.drop f.offset).take (P.cellsOf f.type))) = some ys ∧ y.1 = .agg (ys.map (·.1)) := by
      simp only [DataW.trod, hu] at hy
      split at hy
      · rename_i hl
        obtain ⟨ys, h1, h2⟩ := Option.map_eq_some_iff.1 hy
        exact ⟨hl, ys, h1, by rw [← h2]⟩
      · cases hy
    obtain ⟨hl, ys, hy1, hy2⟩ := key
    obtain ⟨x, hx, ho⟩ := h H enc W sp held n cs ys hy1 fun q hq => hw q (by
      rw [hy2]
      simp only [DataW.weights, hu]
      exact hq)
    refine ⟨x, ?_, ho⟩
    rw [List.drop_zero, ← hc, ← hl, List.take_length] at hx
    exact hx
theorem opensW_iso {t : TypeId} {d : Kd α} {ok : α → Prop} (f : β → α) (g : α → β) (hfg : ∀ x, f (g x) = x) (h : OpensW P t d ok) : OpensW P t (Kd.iso d f) (fun x => ok (f x)) := by
  intro H enc W sp held fuel cs y hy hw
  obtain ⟨x, hx, ho⟩ := h H enc W sp held fuel cs y hy hw
  exact ⟨g x, by show d.K W (f (g x)) cs; rw [hfg]; exact hx, by show ok (f (g x)); rw [hfg]; exact ho⟩
theorem okWide_struct {t : TypeId} {fs : Array Field} {r : Reach} {b0 : Nat} {v : Value} {W : World} (hu : P.underlying t = some (.struct fs)) (h : Value.okWide P W r b0 t v) : ∃ cs, v = .agg cs ∧ cs.size = P.cellsOf t := by
  simp only [Value.okWide, hu] at h
  obtain ⟨cs, h1, h2, _⟩ := h
  exact ⟨cs, h1, h2⟩
end
end Go.Proofs.YtmifoihfpjomaaaO

-- RowAuditCodes
namespace Go.Proofs.Ytmifoihfpjomaaa.auditCodes
open Go.ChangeShapes Go.WideShapes Go.ChangeAt Go.RowKit
open Go.ChangeMaps (open_string shut_string)
set_option linter.unusedVariables false
set_option linter.unusedSimpArgs false
theorem own : ownKnob Try.prog.godebug = none := by kernel_rfl
theorem laidOut : laidOutB Try.prog = true := by kernel_rfl
def IsRow (k : IntKind) (w : World) (a : Option Addr) (len cap : Nat) (zs : List Int) : Prop :=
  (a = none ∧ len = 0 ∧ cap = 0 ∧ zs = []) ∨
  ∃ x, a = some x ∧ len ≤ cap ∧ cap ≤ maxLen ∧ zs.length = cap ∧ (∀ i, i < zs.length → w.cell? (x.add i) = some (.int k (zs.getD i 0))) ∧ ∀ n ∈ zs, (Lit.int k n).wf = true
set_option maxRecDepth 100000 in
theorem lifted (os : Os) (started : os.Started) (H : Type) (enc : TypeId × Value → H) :
    ReturnsInHanded {} Try.checked os 8 .any (Rows.auditCodesSpec.pre6 enc Try.prog Try.f8 Rows.auditCodesRow.domain false) (Rows.auditCodesSpec.post enc Try.prog Try.f8 false true false false) := by
  refine returnsInHanded_of_change_sized (C := Try.checked) own started (by kernel_rfl) Try.func8
    (ChangeSpec.witness6 (enc := enc) (C := Try.checked) false ⟨#[], #[.agg #[.string ByteArray.empty, .int .i64 0, .slice none 0 0], .slice none 0 0], []⟩ 8 (by kernel_rfl) (by kernel_rfl) (by kernel_rfl) (by kernel_rfl)) ?_
  intro W base args ds gs before hval0 hW hcnd hsz0 _
  have hsz : (DataW.weightsEach Try.prog (Try.f8.params.toList ++ Rows.auditCodesSpec.plain.varTypes Try.prog) (ds ++ gs)).all (· ≤ reachBytes) = true := hsz0
  have hval : ∀ (j : Nat) t v, Try.f8.params[j]? = some t → args[j]? = some v → Value.okWide Try.prog W .any base t v := hval0
  have hW' := hW
  obtain ⟨p, q, hA0, hV, rfl, hfz, hnd⟩ := hW
  have hA : DataW.TrodAll enc Try.prog W 0 (fun _ => true) true Try.f8.params.toList args.toList ds p := hA0
  rw [Try.params8] at hA hval hsz
  obtain ⟨v0, vs0, d0, ds0, p0, q0, hargs, rfl, rfl, h0, r0⟩ := trodAll_cons hA
  obtain ⟨v1, vs1, d1, ds1, p1, q1, rfl, rfl, rfl, h1, r1⟩ := trodAll_cons r0
  obtain ⟨rfl, rfl, rfl⟩ := trodAll_nil r1
  obtain rfl : args = #[v0, v1] := by cases args; simp_all
  obtain ⟨rfl, rfl⟩ := trodVars_none hV
  have k0 := h0
  have lt0 : ∀ x ∈ p0, x.block < W.heap.size := by obtain ⟨m, hm⟩ := k0; exact DataW.trod_lt m _ _ _ hm
  obtain ⟨cs0, rfl, hcs0⟩ := Go.Proofs.YtmifoihfpjomaaaO.okWide_struct Try.underlying24 (hval 0 24 v0 rfl rfl)
  obtain ⟨⟨x0_0, x0_1, x0_2⟩, ⟨c0_0, r0_0, e0_0, K0_0, c0_1, c0_2, e0_1, K0_1, K0_2⟩, ok0_0, ok0_1, ok0_2⟩ := Go.Proofs.YtmifoihfpjomaaaO.opensW_arg (d := (Go.Proofs.YtmifoihfpjomaaaW.PrintWords.Kd.pair Go.Proofs.YtmifoihfpjomaaaW.PrintWords.Kd.string (Go.Proofs.YtmifoihfpjomaaaW.PrintWords.Kd.pair (Go.Proofs.YtmifoihfpjomaaaW.PrintWords.Kd.int .i64) (Go.Proofs.YtmifoihfpjomaaaW.PrintWords.Kd.slice 36 Go.Proofs.Ytmifoihfpjomaaa.F.k36)))) (Go.Proofs.YtmifoihfpjomaaaO.opensW_struct Try.underlying24 (Go.Proofs.YtmifoihfpjomaaaO.opensF_cons (Go.Proofs.YtmifoihfpjomaaaO.opensW_string Try.underlying9) (by kernel_rfl) (Go.Proofs.YtmifoihfpjomaaaO.opensF_cons (Go.Proofs.YtmifoihfpjomaaaO.Opens.w (Go.Proofs.YtmifoihfpjomaaaO.opens_int Try.underlying3)) (by kernel_rfl) (Go.Proofs.YtmifoihfpjomaaaO.opensF_one (Go.Proofs.YtmifoihfpjomaaaO.opensW_slice Try.underlying22 (show Go.Proofs.YtmifoihfpjomaaaO.OpensW _ _ Go.Proofs.Ytmifoihfpjomaaa.F.k36 _ from Go.Proofs.YtmifoihfpjomaaaO.opensW_iso (fun x : Go.Proofs.Ytmifoihfpjomaaa.F.S36 => (x.f0, x.f1, x.f2, x.f3, x.f4)) (fun p => ⟨p.1, p.2.1, p.2.2.1, p.2.2.2.1, p.2.2.2.2⟩) (fun _ => rfl) (Go.Proofs.YtmifoihfpjomaaaO.opensW_struct Try.underlying36 (Go.Proofs.YtmifoihfpjomaaaO.opensF_cons (Go.Proofs.YtmifoihfpjomaaaO.Opens.w (Go.Proofs.YtmifoihfpjomaaaO.opens_int Try.underlying3)) (by kernel_rfl) (Go.Proofs.YtmifoihfpjomaaaO.opensF_cons (Go.Proofs.YtmifoihfpjomaaaO.Opens.w (Go.Proofs.YtmifoihfpjomaaaO.opens_int Try.underlying3)) (by kernel_rfl) (Go.Proofs.YtmifoihfpjomaaaO.opensF_cons (Go.Proofs.YtmifoihfpjomaaaO.Opens.w (Go.Proofs.YtmifoihfpjomaaaO.opens_int Try.underlying3)) (by kernel_rfl) (Go.Proofs.YtmifoihfpjomaaaO.opensF_cons (Go.Proofs.YtmifoihfpjomaaaO.opensW_string Try.underlying9) (by kernel_rfl) (Go.Proofs.YtmifoihfpjomaaaO.opensF_one (Go.Proofs.YtmifoihfpjomaaaO.Opens.w (Go.Proofs.YtmifoihfpjomaaaO.opens_int Try.underlying34)) (by kernel_rfl)))))) (by kernel_rfl))) (by kernel_rfl)) (by kernel_rfl)))) (by kernel_rfl)) hsz (j := 0) (t := 24) rfl rfl h0
  obtain rfl := K0_0
  obtain rfl := K0_1
  obtain ⟨A0_2, cp0_2, ee0_2, hc0_2, hC0_2⟩ := K0_2
  subst ee0_2
  subst e0_1
  obtain rfl : cs0 = #[.string x0_0, .int .i64 x0_1, .slice A0_2 (List.length x0_2) cp0_2] := Array.ext' (by first | exact e0_0 | simpa using e0_0)
  obtain ⟨a1, len1, cap1, rfl⟩ := okWide_slice Try.underlying45 (hval 1 45 v1 rfl rfl)
  have k1 := h1
  have lt1 : ∀ x ∈ p1, x.block < W.heap.size := by obtain ⟨m, hm⟩ := k1; exact DataW.trod_lt m _ _ _ hm
  obtain ⟨z1, w1⟩ : ∃ zs, IsRow .u8 W a1 len1 cap1 zs := by
    obtain ⟨fuel, hf⟩ := h1
    rcases open_ints Try.underlying45 Try.underlying5 (by kernel_rfl) hf with ⟨hcs, _⟩ | ⟨x, l, c, zs, hcs, _, hl, hm, hz, _, hcell, hwz⟩
    · simp [Value.cells] at hcs
      obtain ⟨rfl, rfl, rfl⟩ := hcs
      exact ⟨[], .inl ⟨rfl, rfl, rfl, rfl⟩⟩
    · simp [Value.cells] at hcs
      obtain ⟨rfl, rfl, rfl⟩ := hcs
      exact ⟨zs, .inr ⟨_, rfl, hl, hm, by simpa using hz, hcell, hwz⟩⟩
  have y1 : len1 * 1 ≤ 140737488351232 := Go.Proofs.YtmifoihfpjomaaaW.PrintWords.sized_ints hsz (j := 1) (t := 45) rfl rfl Try.underlying45 Try.underlying5 (by kernel_rfl) (by kernel_rfl) h1
  obtain ⟨l1, rfl, hr1, hm1, hw1, hc1⟩ := Go.Proofs.YtmifoihfpjomaaaW.PrintWords.ReadsInt.ofRowC w1
  clear hA0 hval0 hsz0 hsz
  refine (Go.Proofs.YtmifoihfpjomaaaR.is_tells (Go.Proofs.Ytmifoihfpjomaaa.F.AuditCodes_c W x0_0 x0_1 A0_2 cp0_2 x0_2 a1 cap1 l1 ok0_0 ok0_1 hC0_2 hc0_2 ok0_2 (Go.Proofs.YtmifoihfpjomaaaW.PrintWords.Kd.C_of_reads (d := (0 : Int)) (h1 := fun _ => rfl) hr1) hc1 hm1 y1 hw1)).mono fun e W' ⟨he, bel⟩ => ?_
  subst he
  exact ⟨_, rfl, _, _, _, [], _, [], hW', trodAll_mk1 (shut_bool Try.underlying4 _), (trodAll_cons_mk (Below.trod laidOut (by kernel_rfl) (of_decide_eq_true (by kernel_rfl)) k0 bel lt0) (trodAll_cons_mk (Below.trod laidOut (by kernel_rfl) (of_decide_eq_true (by kernel_rfl)) k1 bel lt1) trodAll_mk0)), rfl, bel.frame _, fun h => by cases h⟩
theorem over : Rows.auditCodesRow.holds Try.pinned (OpenSpec.ofChange Rows.auditCodesSpec) :=
  OpenClaim.holds_of_wide 8 Try.f8 rfl rfl rfl rfl rfl rfl rfl ⟨rfl, rfl, rfl, rfl, rfl⟩ rfl rfl rfl rfl rfl (by kernel_rfl) Try.func8 (by kernel_rfl)
    (of_decide_eq_true (by kernel_rfl)) (by unfold Func.isWrapper; first | (rw [if_pos (by decide +kernel)]; kernel_rfl) | (rw [if_neg (by decide +kernel)]; exact ⟨rfl, rfl⟩))
    (fun os started H enc _ => lifted os started H enc)
end Go.Proofs.Ytmifoihfpjomaaa.auditCodes
namespace Go.Proofs.Ytmifoihfpjomaaa
/-- The row, under a short name, for the claim. -/
theorem auditCodes_holds : Rows.AuditCodesSaid := auditCodes.over
#print axioms auditCodes_holds
end Go.Proofs.Ytmifoihfpjomaaa
