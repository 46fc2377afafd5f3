/- The row of the law AuditPlays: for every input the law's call returns true, whatever memory; no condition. Out of the contract AuditPlays_c. -/
import Derived.Test.YtmifoihfpjomaaaSE
import Derived.SizedLaws
import Derived.ChangeSlices
import Derived.Test.YtmifoihfpjomaaaVArr
import Derived.WideKeyArr2
import Derived.WalkKit
import Derived.ProofKit
import Derived.OpenShut
import Derived.Test.YtmifoihfpjomaaaRows
import Derived.ShutString
import Derived.ChangeOld
import Derived.Below
import Derived.Lib.SmallJoins

-- AuditPlays
namespace Go.Proofs.Ytmifoihfpjomaaa.F
open Go Go.RowKit Go.Proofs.YtmifoihfpjomaaaW.PrintWords Go.Proofs.YtmifoihfpjomaaaW.PrintLast Go.Proofs.YtmifoihfpjomaaaW.PrintMore Go.Proofs.YtmifoihfpjomaaaM Go.Proofs.YtmifoihfpjomaaaR
attribute [local go_sem] max2_int min2_int max_two min_two
set_option linter.unusedSimpArgs false
set_option linter.unusedVariables false
set_option maxRecDepth 100000
def unA (last : Int) : Option (ByteArray × List En) → ByteArray × Int × List En × Int
  | none => (⟨#[]⟩, 0, [], 1)
  | some r => (r.1, last + 1, r.2, 0)
theorem addV_un {base : Nat} {last : Int} {r : Option (ByteArray × List En)} {w : World} {v : Value} (h : AddV base last r w v) : ∃ v0, v = .tuple #[.agg #[.string (unA last r).1, .int .i64 (unA last r).2.1, v0], .int .i64 (unA last r).2.2.2] ∧ RowO w base 36 5 v0 (unA last r).2.2.1.length (ens (unA last r).2.2.1) := by
  cases r with
  | none => exact ⟨_, h, rowO_nil _ _ _ _⟩
  | some r => exact h
theorem rowO_C' {w : World} {base n c : Nat} {A : Option Addr} {l : List En} (h : RowO w base 36 5 (.slice A n c) n (ens l)) (hl : l.length = n) : Kd.C k36 w A n l := by
  obtain ⟨A', c', he, -, hC⟩ := rowO_C h hl
  injection he with e1 e2 e3
  rw [e1]
  exact hC
set_option maxHeartbeats 8000000 in
theorem AuditPlays_c (w : World) (A : Option Addr) (c : Nat) (l : List En) {Q0 : Prop} (hr : Kd.C k36 w A l.length l) (hc : l.length ≤ c) (ok0 : Q0) :
    Calls Try.prog 5 #[.slice A l.length c] w (Tells w (Is (.bool true))) := by
  clear ok0
  have HR := Lib.hid (fun wx (h : Grew w wx) => Kd.C_below hr h)
  obtain ⟨n, hn⟩ : ∃ n, n = l.length := ⟨_, rfl⟩
  have HN := Lib.hid hn
  rw [← hn] at HR hc ⊢
  clear hr hn
  go_enter Try.func5, Try.ntmps5
  go_wp2_with fail
  refine (anew_c w).mono ?_
  rintro e w1 ⟨_, rfl, ⟨A2, c2, rfl, hc2, hC2⟩, hg1⟩
  rw [show strOfNums (List.replicate 32 0) = Z32 from rfl]
  obtain ⟨Z, hZ⟩ : ∃ Z, Z = Z32 := ⟨_, rfl⟩
  rw [← hZ]
  simp only [List.length_nil] at hC2 ⊢
  obtain ⟨g3, hg3⟩ : ∃ g3, g3 = w1.heap.size := ⟨_, rfl⟩
  obtain ⟨W1, hW1⟩ : ∃ W1, W1 = w1.alloc (.cells #[.string Z, .int .i64 0, .slice A2 0 c2] 27) := ⟨_, rfl⟩
  have hb3 : Blk W1 g3 27 [.string Z, .int .i64 0, .slice A2 0 c2] := by rw [hW1, hg3]; exact Blk.new _ _ _
  have hgW : Grew w W1 := Grew.trans hg1 (by rw [hW1]; exact Grew.alloc _ _)
  have hI0 : PlayI w W1 g3 (g3 + 1) [] (.slice none 0 0) (.slice A2 0 c2) :=
    ⟨numd_nil, rowO_nil _ _ _ _, by rw [ofA_nil', ← hZ]; exact hb3, .inl ⟨rfl, _, _, rfl⟩, hgW⟩
  have HGS := Lib.hid (show w.heap.size ≤ g3 from by rw [hg3]; exact hg1.size)
  have HZ := Lib.hid hZ
  have HW1 := Lib.hid hW1
  have HG3 := Lib.hid hg3
  have HI0 := Lib.hid hI0
  clear hZ hC2 hc2 hb3 hgW hI0 hW1 hg3 hg1
  go_wp2_with fail
  rw [← HW1.out]
  rw [← HG3.out]
  go_loopw [4, 5] (fun v4 iv wr => ∃ (al : List En) (i : Nat) (va : Value), iv = .int .i64 (i : Int) ∧ i ≤ n ∧ i ≤ 30 ∧ al.length ≤ i ∧ PlayI w wr g3 (g3 + 1) al v4 va) (fun _ iv _ => n - (intOf iv).toNat)
  case atStart => exact ⟨[], 0, _, rfl, Nat.zero_le _, Nat.zero_le _, Nat.zero_le _, HI0.out⟩
  case round =>
    obtain ⟨al, i, va, rfl, hin, hi30, hal, hI⟩ := hrel
    obtain ⟨A4, c4, hv4, hc4⟩ := hI.row.slice
    subst hv4
    have HI := Lib.hid hI
    obtain ⟨m, hm⟩ : ∃ m, m = al.length := ⟨_, rfl⟩
    have HM := Lib.hid hm
    rw [← hm] at hal hc4 ⊢
    clear hI hm
    by_cases hgo : i < n ∧ i < 30
    · obtain ⟨hlt, hl3⟩ := hgo
      have d1 : decide ((i : Int) < (n : Int)) = true := decide_eq_true (by omega)
      have d2 : decide (i < n) = true := decide_eq_true hlt
      have d3 : decide ((i : Int) < 30) = true := decide_eq_true (by omega)
      have d4 : decide (i < 30) = true := decide_eq_true hl3
      have i1 : (i : Int) < (n : Int) := by omega
      obtain ⟨ad0, rfl, k0, k1, k2, k3, k4⟩ := at_T36 (HR.out wr HI.out.grew) (i : Int) (by omega) i1
      obtain ⟨e, he⟩ : ∃ e, e = rd_T36 l (i : Int) := ⟨_, rfl⟩
      rw [Int.toNat_natCast, ← he] at k0 k1 k2 k3 k4
      clear he
      obtain ⟨s, t, k, p, x⟩ := e
      simp only at k0 k1 k2 k3 k4
      obtain ⟨ps, hps⟩ : ∃ ps, p.size = ps := ⟨_, rfl⟩
      by_cases h1000 : 1000 < ps
      · have d5 : decide (1000 < ps) = true := decide_eq_true h1000
        have d6 : decide (1000 < (ps : Int)) = true := decide_eq_true (by omega)
        go_wp2_with fail
        refine (lives_c wr).mono ?_
        rintro e w2 ⟨_, rfl, rfl, hg2⟩
        go_wp2_with fail
        go_ret
        exact ⟨_, rfl, rfl, Grew.trans HI.out.grew hg2⟩
      · have d5 : decide (1000 < ps) = false := decide_eq_false h1000
        have d6 : decide (1000 < (ps : Int)) = false := decide_eq_false (by omega)
        have hw : IntKind.i64.wrap ((m : Int) + 1) = (m : Int) + 1 := IntWalk.i64_in _ (by omega)
        have HKC := Lib.hid (fun wx (h : Grew wr wx) => And.intro (pw_cell_below h k0) (And.intro (pw_cell_below h k1) (And.intro (pw_cell_below h k2) (And.intro (pw_cell_below h k3) (pw_cell_below h k4)))))
        obtain ⟨W9, hW9⟩ : ∃ W9, W9 = wr.alloc (.cells #[.int .i64 ((m : Int) + 1), .int .i64 t, .int .i64 k, .string p, .int .i64 x] 36) := ⟨_, rfl⟩
        obtain ⟨g6, hg6⟩ : ∃ g6, g6 = wr.heap.size := ⟨_, rfl⟩
        have hb6 : Blk W9 g6 36 [.int .i64 ((m : Int) + 1), .int .i64 t, .int .i64 k, .string p, .int .i64 x] := by rw [hW9, hg6]; exact Blk.new _ _ _
        have hgr9 : Grew wr W9 := by rw [hW9]; exact Grew.alloc _ _
        have HB6 := Lib.hid (fun wx (h : Grew W9 wx) => And.intro ((hb6.grew h).at_ 0) (And.intro ((hb6.grew h).at_ 1) (And.intro ((hb6.grew h).at_ 2) (And.intro ((hb6.grew h).at_ 3) ((hb6.grew h).at_ 4)))))
        simp only [List.getElem?_cons_zero, List.getElem?_cons_succ] at HB6
        have HG9 := Lib.hid hgr9
        have HW9 := Lib.hid hW9
        have HE6 := Lib.hid hg6
        clear hb6 hgr9 hW9 hg6
        go_wp2_with fail
        rw [← HW9.out]
        rw [← HE6.out]
        clear d1 d2 d3 d4 d5 d6 k0 k1 k2 k3 k4 hw hps
        obtain ⟨AD, cD, rfl, hcD, hCD⟩ := HI.out.aud.C
        obtain ⟨⟨ra, rn, rl, re⟩, hre⟩ : ∃ r, r = unA (al.length : Int) (addP (ofA al) (al.length : Int) (al.drop (al.length - 8)) ⟨s, t, k, p, x⟩) := ⟨_, rfl⟩
        have HAD2 := Lib.hid (fun wx (h : Grew wr wx) (N : Nat) (hN : N ≤ wx.heap.size) => (add_c (ofA al) (al.length : Int) AD cD (al.drop (al.length - 8)) s t k p x wx (Kd.C_below hCD h) hcD).mono fun e w' ht => (show Tells wx (AddT N ra rn rl re) e w' from by
          obtain ⟨v, he, hv, hg⟩ := ht
          obtain ⟨v0, h1, h2⟩ := addV_un hv
          rw [← hre] at h1 h2
          exact ⟨v, he, ⟨v0, h1, RowO.less h2 hN⟩, hg⟩))
        have hb3 := HI.out.blk
        have HB3 := Lib.hid (fun wx (h : Grew wr wx) => And.intro ((hb3.grew h).at_ 0) (And.intro ((hb3.grew h).at_ 1) ((hb3.grew h).at_ 2)))
        simp only [List.getElem?_cons_zero, List.getElem?_cons_succ] at HB3
        have HRE := Lib.hid hre
        obtain ⟨kd, hkd⟩ : ∃ kd, kd = (al.drop (al.length - 8)).length := ⟨_, rfl⟩
        rw [← hkd] at HAD2 HB3
        rw [← HM.out] at HAD2 HB3
        obtain ⟨oa, hoa⟩ : ∃ oa, oa = ofA al := ⟨_, rfl⟩
        rw [← hoa] at HAD2 HB3
        have HKD := Lib.hid hkd
        have HOA := Lib.hid hoa
        have HCD := Lib.hid hCD
        have HcD := Lib.hid hcD
        clear hre hb3 hkd hoa hCD hcD
        apply region_bigQ 7 (PutA W9.heap.size 27 ra rn rl) [.plain, .plain, .plain, .plain, .plain, .plain, .plain, .plain, .float, .plain, .big] [Is _, Is _, Is _, Is _, Is _, AddT W9.heap.size ra rn rl re, AddT W9.heap.size ra rn rl re, AddA W9.heap.size ra rn rl, Is (.int .i64 re), NewA W9.heap.size 27, Is undef] [([(3, none)], none), ([(0, none)], none), ([(5, none)], none), ([(38, some 1), (39, some 2)], none), ([(40, some 3)], none), ([(37, some 0), (41, some 4)], none), ([(42, some 5)], none), ([(36, some 6)], none), ([(36, some 6)], none), ([], none), ([(7, some 9), (43, some 7)], none)] [(7, 9), (36, 6), (42, 5), (43, 7), (37, 0), (38, 1), (39, 2), (40, 3), (41, 4), (44, 8)] rfl (by kernel_rfl) (by kernel_rfl) (by kernel_rfl) (by kernel_rfl) (by kernel_rfl) rfl (show StableB Grew _ _ _ from ⟨(fun _ => Is.stableB _), (fun _ => Is.stableB _), (fun _ => Is.stableB _), (fun _ => Is.stableB _), (fun _ => Is.stableB _), (fun _ => AddT.stable (by decide)), (fun _ => AddT.stable (by decide)), (fun _ => AddA.stable (by decide)), (fun _ => Is.stableB _), (fun _ => NewA.stable), (fun h_ => absurd rfl h_), trivial⟩)
        · show PhHoldQ _ _ _ _ _ _ _ _ _ _ _
          refine ⟨fun a_ wx hR hD K hK => ?_, ?_⟩
          · have hG : Grew W9 wx := (Grew.drew _).trans hR
            simp [Deps, Dep, at_, Is] at hD
            obtain ⟨e0, e1, e2⟩ := HB3.out wx (Grew.trans HG9.out hG)
            go_simp
            exact hK _ _ (Grew.refl _) rfl
          refine ⟨fun a_ wx hR hD K hK => ?_, ?_⟩
          · have hG : Grew W9 wx := (Grew.drew _).trans hR
            simp [Deps, Dep, at_, Is] at hD
            go_simp
            exact hK _ _ (Grew.refl _) rfl
          refine ⟨fun a_ wx hR hD K hK => ?_, ?_⟩
          · have hG : Grew W9 wx := (Grew.drew _).trans hR
            simp [Deps, Dep, at_, Is] at hD
            go_simp
            exact hK _ _ (Grew.refl _) rfl
          refine ⟨fun a_ wx hR hD K hK => ?_, ?_⟩
          · have hG : Grew W9 wx := (Grew.drew _).trans hR
            simp [Deps, Dep, at_, Is] at hD
            obtain ⟨hd0, hd1⟩ := hD
            go_simp
            exact hK _ _ (Grew.refl _) rfl
          refine ⟨fun a_ wx hR hD K hK => ?_, ?_⟩
          · have hG : Grew W9 wx := (Grew.drew _).trans hR
            simp [Deps, Dep, at_, Is] at hD
            obtain ⟨e0, e1, e2, e3, e4⟩ := HKC.out wx (Grew.trans HG9.out hG)
            go_simp
            exact hK _ _ (Grew.refl _) rfl
          refine ⟨fun a_ wx hR hD K hK => ?_, ?_⟩
          · have hG : Grew W9 wx := (Grew.drew _).trans hR
            simp [Deps, Dep, at_, Is] at hD
            obtain ⟨hd0, hd1⟩ := hD
            go_simp
            have hcn := HAD2.out wx (Grew.trans HG9.out hG) W9.heap.size hG.size
            with_reducible refine hcn.mono ?_
            clear hcn
            rintro e wy ⟨v, rfl, hv, hg⟩
            exact hK _ _ hg hv
          refine ⟨fun a_ wx hR hD K hK => ?_, ?_⟩
          · have hG : Grew W9 wx := (Grew.drew _).trans hR
            simp [Deps, Dep, at_, Is] at hD
            obtain ⟨v0, hv0, hr0⟩ := hD
            go_simp
            exact hK _ _ (Grew.refl _) ⟨v0, rfl, hr0⟩
          refine ⟨fun a_ wx hR hD K hK => ?_, ?_⟩
          · have hG : Grew W9 wx := (Grew.drew _).trans hR
            simp [Deps, Dep, at_, Is] at hD
            obtain ⟨v0, hv0, hr0⟩ := hD
            go_simp
            exact hK _ _ (Grew.refl _) ⟨v0, rfl, hr0⟩
          refine ⟨fun a_ wx hD K hK => ?_, ?_⟩
          · have hF_ := True.intro
            simp [Deps, Dep, at_, Is] at hD
            obtain ⟨v0, hv0, hr0⟩ := hD
            go_simp
            exact hK _ _ rfl rfl
          refine ⟨fun a_ wx hR hD K hK => ?_, ?_⟩
          · have hG : Grew W9 wx := (Grew.drew _).trans hR
            go_simp
            exact hK _ _ (Grew.alloc _ _) ⟨_, _, rfl, hG.size, rfl, Blk.new _ _ [.string ⟨#[]⟩, .int .i64 0, .slice none 0 0]⟩
          refine ⟨⟨rfl, fun a_ wx hR hD K hK => ?_⟩, ?_⟩
          · have hG : Grew W9 wx := (Grew.drew _).trans hR
            simp [Deps, Dep, at_, Is] at hD
            obtain ⟨hd0, hd1⟩ := hD
            obtain ⟨g1, cs, h1, h2, h3, h4⟩ := hd0
            obtain ⟨v0, h5, h6⟩ := hd1
            obtain ⟨A0, c0, h7, -⟩ := RowO.slice h6
            exact wp_store_row 27 (.tmp 7) (.tmp 43) rfl g1 #[.string ra, .int .i64 rn, v0] (eval_tmp h1) (eval_tmp h5) 27 cs.toArray h4 (by kernel_rfl) (by simpa using h3) (by rw [h7]; exact zA_one _ _ _ _ _) (hK _ _ ⟨g1, cs, v0, h1, h2, h3, h4, h6, rfl⟩ rfl)
          trivial
        · show EndHold _ _ _ _ _ _ _
          intro v7
          intro v36
          intro v42
          intro v43
          refine end_all (xs := [_, _, _, _, _, _]) ⟨rfl, rfl, rfl, rfl, rfl, rfl, trivial⟩ ?_
          rintro w2 hR1 ⟨⟨⟨⟨-, hN9⟩, hA6⟩, hA5⟩, hA7⟩
          refine ⟨?_⟩
          rintro ⟨wm_w2, hRm, hP_w2⟩
          have hG_w2 : Grew W9 wm_w2 := (Grew.drew _).trans hRm
          clear hRm
          simp only [Act.put, List.setIfInBounds_toArray, List.set_cons_succ, List.set_cons_zero, dropN, putEach]
          obtain ⟨g7, cs7, v0, hv7, hN7, h37, hbl7, hro7, rfl⟩ := hP_w2
          simp only [Act.put, List.setIfInBounds_toArray, List.set_cons_succ, List.set_cons_zero, putEach, List.getElem?_toArray, List.getElem?_cons_succ, List.getElem?_cons_zero, Option.getD_some] at hv7
          have hv7' : v7 = .pointer (some ⟨g7, 0, none⟩) := hv7
          clear hv7 hN9 hA7 hA6 hA5 hR1
          subst hv7'
          obtain ⟨A7, c7, rfl, hc7⟩ := RowO.slice hro7
          have hb7 := hbl7.setRow [Value.string ra, .int .i64 rn, .slice A7 rl.length c7]
          have hro := RowO.upd (w' := wm_w2.setRow g7 [Value.string ra, .int .i64 rn, .slice A7 rl.length c7].toArray) (S := fun j => j = g7) hro7 (Upd.setRow (S := fun j => j = g7) (Upd.refl _ _) (.inl rfl) _) (fun j hj e => RowO.ne hro7 hbl7 (by decide) (by rw [hj, e]))
          have hg29 := Grew.setRow hG_w2 hN7 [Value.string ra, .int .i64 rn, .slice A7 rl.length c7].toArray
          obtain ⟨W2, hW2⟩ : ∃ W2, W2 = wm_w2.setRow g7 [Value.string ra, .int .i64 rn, .slice A7 rl.length c7].toArray := ⟨_, rfl⟩
          rw [← hW2] at hb7 hro hg29 ⊢
          have HG29 := Lib.hid hg29
          have HG2 := Lib.hid (Grew.trans HG9.out hg29)
          have HRO7 := Lib.hid hro
          have HB7 := Lib.hid hb7
          clear hro7 hbl7 hW2 hG_w2 hN7 h37 hro hb7 hg29
          obtain ⟨f0, f1, f2, f3, f4⟩ := HB6.out W2 HG29.out
          go_wp2_with fail
          refine (rgood_c ((m : Int) + 1) t k p x W2).mono ?_
          rintro e w3 ⟨_, rfl, rfl, hg3⟩
          have hadd := add_of HI.out.num (by rw [← HM.out]; omega) ⟨s, t, k, p, x⟩
          have hnx : nextE (al.length : Int) ⟨s, t, k, p, x⟩ = ⟨(m : Int) + 1, t, k, p, x⟩ := by rw [HM.out]; rfl
          rw [hnx] at hadd
          clear f0 f1 f2 f3 f4
          cases hg : goodP ⟨(m : Int) + 1, t, k, p, x⟩ with
          | false =>
            rw [hg] at hadd
            have hre := HRE.out
            rw [hadd] at hre
            obtain ⟨rfl, rfl, rfl, rfl⟩ : ra = ⟨#[]⟩ ∧ rn = 0 ∧ rl = [] ∧ re = 1 := by simpa [unA] using hre
            clear hadd hre hg
            go_wp2_with fail
            go_roundw
            case rel => exact ⟨al, i + 1, _, by go_num, by omega, by omega, by rw [← HM.out]; omega, by have h := HI.out.grow (Grew.trans HG2.out hg3); rw [← HM.out] at h; exact h⟩
            case measure => simp [intOf]; omega
          | true =>
            rw [hg, if_pos rfl] at hadd
            have hnd := numd_snoc HI.out.num (e := ⟨s, t, k, p, x⟩) (by rw [hnx]; exact hg)
            rw [hnx] at hnd
            have hre := HRE.out
            rw [hadd] at hre
            have hln : (al ++ [(⟨(m : Int) + 1, t, k, p, x⟩ : En)]).length = m + 1 := by rw [List.length_append, ← HM.out]; rfl
            obtain ⟨hra, hrn, hrl, hr0⟩ : ra = ofA (al ++ [⟨(m : Int) + 1, t, k, p, x⟩]) ∧ rn = (m : Int) + 1 ∧ rl = (al ++ [(⟨(m : Int) + 1, t, k, p, x⟩ : En)]).drop ((al ++ [(⟨(m : Int) + 1, t, k, p, x⟩ : En)]).length - 8) ∧ re = 0 := by
              have e := hre
              simp only [unA, Prod.mk.injEq] at e
              exact ⟨e.1, by rw [e.2.1, HM.out], e.2.2.1, e.2.2.2⟩
            subst hrn hr0
            have hrow3 := HI.out.row.grew (Grew.trans HG2.out hg3)
            rw [← HM.out] at hrow3
            obtain ⟨W10, hW10⟩ : ∃ W10, W10 = w3.alloc (.cells (enc5 ⟨(m : Int) + 1, t, k, p, x⟩).toArray 36) := ⟨_, rfl⟩
            have hgW : Grew w3 W10 := by rw [hW10]; exact Grew.alloc _ _
            have hbn : Blk W10 w3.heap.size 36 (enc5 ⟨(m : Int) + 1, t, k, p, x⟩) := by rw [hW10]; exact Blk.new _ _ _
            have hlt3 := HI.out.blk.lt
            have hs9 := HG9.out.size
            have hsw : wr.heap.size ≤ W10.heap.size := (Grew.trans (Grew.trans HG2.out hg3) hgW).size
            have hrow10 := hrow3.grew hgW
            obtain ⟨v8, w8, hrun, hro8, hgr8, hnb8⟩ := app_rowO (P := Try.prog) W10 (g3 + 1) 22 36 22 (.agg #[.int .i64 0, .int .i64 0, .int .i64 0, .string ⟨#[]⟩, .int .i64 0]) 5 48 Try.underlying22 infoEn rfl (by decide) (by decide) (.slice A4 m c4) m (ens al) w3.heap.size (enc5 ⟨(m : Int) + 1, t, k, p, x⟩) rfl (enc5_one _) hrow10 hbn (by omega) (by omega)
            rw [← ens_snoc] at hro8
            have hu8 := Upd.of_grown hgr8
            have hb310 := HI.out.blk.grew (Grew.trans (Grew.trans HG2.out hg3) hgW)
            have hb710 := HB7.out.grew (Grew.trans hg3 hgW)
            have hro710 := HRO7.out.grew (Grew.trans hg3 hgW)
            have hb38 := hb310.upd hu8 (hrow10.ne hb310 (by decide))
            have hb78 := hb710.upd hu8 (hrow10.ne hb710 (by decide))
            have hl4 := HI.out.row.lt
            rw [← HM.out] at hl4
            have hro78 := hro710.upd hu8 (fun j hj e => by have h1 := hro710.base_ j hj; have h2 := hl4 j e; omega)
            have hgw8 : Grew w w8 := ((Upd.of_grew (S := fun j => (Value.slice A4 m c4).ownBlock = some j) (Grew.trans HI.out.grew (Grew.trans (Grew.trans HG2.out hg3) hgW))).trans hu8).grew (fun j hj e => by have h1 := hrow10.base_ j e; have h2 := HGS.out; omega)
            have hdis : ∀ j, (Value.slice A7 rl.length c7).ownBlock = some j → v8.ownBlock ≠ some j := by
              intro j hj e
              have h1 := hro710.base_ j hj
              have h2 := hro710.lt j hj
              rcases hnb8 with h3 | ⟨q, h3, h4⟩
              · rw [h3] at e; have := hl4 j e; omega
              · rw [h3] at e; obtain rfl := Option.some.inj e; omega
            obtain ⟨A8, c8, rfl, hc8⟩ := hro8.slice
            have hC8 := rowO_C' hro8 hln
            have HOF := Lib.hid (fun wx (h : Grew w8 wx) => of_c A8 c8 (al ++ [⟨(m : Int) + 1, t, k, p, x⟩]) wx (by rw [hln]; exact Kd.C_below hC8 h) (by rw [hln]; exact hc8) (by rw [hln]; omega) hnd)
            rw [← hra, ← hrl, hln, show ((m + 1 : Nat) : Int) = (m : Int) + 1 from by omega] at HOF
            have hC7 := rowO_C' hro78 rfl
            have h88 : rl.length ≤ 1000 := by rw [hrl, List.length_drop, hln]; omega
            have HSAME := Lib.hid (fun wx (h : Grew w8 wx) A' c' (h1 : Kd.C k36 wx A' rl.length rl) (h2 : rl.length ≤ c') => same_c ra ((m : Int) + 1) A7 A' rl.length c7 c' rl wx (Kd.C_below hC7 h) h1 rfl hc7 h2 h88)
            have HFIN := Lib.hid (fun wx (h : Grew w8 wx) => show PlayI w (wx.setRow g3 [Value.string ra, .int .i64 ((m : Int) + 1), .slice A7 rl.length c7].toArray) g3 (g3 + 1) (al ++ [⟨(m : Int) + 1, t, k, p, x⟩]) (.slice A8 (m + 1) c8) (.slice A7 rl.length c7) from
              ⟨hnd, by
                rw [hln]
                exact RowO.upd (S := fun j => j = g3) (hro8.grew h) (Upd.setRow (S := fun j => j = g3) (Upd.refl _ _) (.inl rfl) _) (fun j hj e => by have := hro8.base_ j hj; omega), by
                have := (hb38.grew h).setRow [Value.string ra, .int .i64 ((m : Int) + 1), .slice A7 rl.length c7]
                rw [hln, show ((m + 1 : Nat) : Int) = (m : Int) + 1 from by omega, ← hra]
                exact this, by
                rw [← hrl]
                exact .inr ⟨W9.heap.size, RowO.upd (S := fun j => j = g3) (hro78.grew h) (Upd.setRow (S := fun j => j = g3) (Upd.refl _ _) (.inl rfl) _) (fun j hj e => by have := hro78.base_ j hj; omega), hdis⟩,
                ((Upd.of_grew (S := fun j => j = g3) (Grew.trans hgw8 h)).trans (Upd.setRow (S := fun j => j = g3) (Upd.refl _ _) (.inl rfl) _)).grew (fun j hj e => by have h2 := HGS.out; omega)⟩)
            have HB38 := Lib.hid (fun wx (h : Grew w8 wx) => hb38.grew h)
            have HB78 := Lib.hid (fun wx (h : Grew w8 wx) => hb78.grew h)
            subst hW10
            have HRUN := Lib.hid hrun
            obtain ⟨f0, f1, f2, f3, f4⟩ := HB6.out w3 (Grew.trans HG29.out hg3)
            have j0 := hb78.at_ 0
            have j1 := hb78.at_ 1
            have j2 := hb78.at_ 2
            simp only [List.getElem?_cons_zero, List.getElem?_cons_succ] at j0 j1 j2
            have hwi : IntKind.i64.wrap ((i : Int) + 1) = (i : Int) + 1 := IntWalk.i64_in _ (by omega)
            clear hadd hnx hre hra hrl hnd hrow3 hgW hbn hlt3 hs9 hsw hrow10 hrun hro8 hgr8 hnb8 hu8 hb310 hb710 hro710 hb38 hb78 hl4 hro78 hgw8 hdis hC8 hC7 h88 hg hln
            go_wp2_with (at_builtin; refine wpList_app (by rfl) (.tmp 50) (.tmp 52) 22 (by rfl) (by rfl) (by rfl) HRUN.out ?_)
            clear f0 f1 f2 f3 f4 j0 j1 j2
            refine (theirs_c ra ((m : Int) + 1) A7 rl.length c7 w8).mono ?_
            rintro e w4 ⟨_, rfl, rfl, hg4⟩
            go_wp2_with fail
            refine (HOF.out w4 hg4).mono ?_
            rintro e w5 ⟨_, rfl, ⟨A5, c5, rfl, hc5, hC5⟩, hg5⟩
            go_wp2_with fail
            refine (HSAME.out w5 (Grew.trans hg4 hg5) A5 c5 hC5 hc5).mono ?_
            rintro e w6 ⟨_, rfl, rfl, hg6⟩
            have hg86 := Grew.trans (Grew.trans hg4 hg5) hg6
            have b7 := HB78.out w6 hg86
            have b3 := HB38.out w6 hg86
            have HP := Lib.hid (HFIN.out w6 hg86)
            clear hC5 hc5 hg4 hg5 hg6 hg86
            go_wp2_with (first | refine wpList_load_blk b7 (by rfl) 27 (.tmp 7) (by rfl) (by rfl) _ Try.underlying27 (by rfl) (by kernel_rfl) ?_ | refine wpList_store_blk (c := [.string ra, .int .i64 ((m : Int) + 1), .slice A7 rl.length c7]) b3 (by rfl) 27 (.tmp 3) (.tmp 64) (by rfl) (by rfl) (by rfl) (by kernel_rfl) rfl (zA_one _ _ _ _ _) ?_)
            go_roundw
            case rel => exact ⟨_, i + 1, _, by go_num, by omega, by omega, by rw [List.length_append, ← HM.out]; simp; omega, HP.out⟩
            case measure => simp [intOf]; omega
    · obtain ⟨AD, cD, rfl, hcD, hCD⟩ := HI.out.aud.C
      have hb3 := HI.out.blk
      have HB3 := Lib.hid (fun wx (h : Grew wr wx) => And.intro ((hb3.grew h).at_ 0) (And.intro ((hb3.grew h).at_ 1) ((hb3.grew h).at_ 2)))
      simp only [List.getElem?_cons_zero, List.getElem?_cons_succ] at HB3
      have HDG := Lib.hid (fun wx (h : Grew wr wx) => digest_c (ofA al) (al.length : Int) AD cD (al.drop (al.length - 8)) wx (Kd.C_below hCD h) hcD)
      rw [dig_of HI.out.num (by rw [← HM.out]; omega)] at HDG
      obtain ⟨A4', c4', hv4', hc4', hC4⟩ := rowO_C HI.out.row rfl
      injection hv4' with e1 e2 e3
      subst e1 e3
      have HCH := Lib.hid (fun wx (h : Grew wr wx) => rachain_c wx (bytesOf Z32) A4 al.length c4 al (Kd.C_below hC4 h) rfl hc4' (by rw [← HM.out]; omega) (bytesOf_bytes _) (by rw [bytesOf_length, z32_size]; omega) (numd_good HI.out.num))
      rw [str_bytes] at HCH
      obtain ⟨S, hS⟩ : ∃ S, S = strOfNums (chainE (bytesOf Z32) al) := ⟨_, rfl⟩
      rw [← hS] at HDG HCH
      rw [← HZ.out] at HCH
      obtain ⟨kd, hkd⟩ : ∃ kd, kd = (al.drop (al.length - 8)).length := ⟨_, rfl⟩
      rw [← hkd] at HDG HB3
      rw [← HM.out] at HDG HB3 HCH
      obtain ⟨oa, hoa⟩ : ∃ oa, oa = ofA al := ⟨_, rfl⟩
      rw [← hoa] at HDG HB3
      obtain ⟨L32, hL32⟩ : ∃ L : List Int, L = List.replicate 32 0 := ⟨_, rfl⟩
      have HL3 := Lib.hid (show L32.length = 32 from by rw [hL32, List.length_replicate])
      have HZ3 := Lib.hid (show strOfNums L32 = Z from by rw [hL32, HZ.out]; rfl)
      have HL32 := Lib.hid hL32
      clear hL32 hS hkd hoa hb3 hCD hcD hC4 hc4'
      rcases Nat.lt_or_ge i n with hx | hx
      case' inl =>
        have d1 : decide ((i : Int) < (n : Int)) = true := decide_eq_true (by omega)
        have d2 : decide (i < n) = true := decide_eq_true hx
        have d3 : decide ((i : Int) < 30) = false := decide_eq_false (by omega)
        have d4 : decide (i < 30) = false := decide_eq_false (by omega)
        clear hgo hx
        go_wp2_with fail
        clear d1 d2 d3 d4
      case' inr =>
        have d1 : decide ((i : Int) < (n : Int)) = false := decide_eq_false (by omega)
        have d2 : decide (i < n) = false := decide_eq_false (by omega)
        clear hgo hx
        go_wp2_with fail
        clear d1 d2
      all_goals
        apply region_grew [Is _, Is _, Row L32, Is _, Is _] [([(3, none)], none), ([(65, some 0)], none), ([], none), ([(67, some 2)], none), ([(4, none)], none)] [(67, 2), (65, 0), (66, 1), (68, 3), (69, 4)] rfl (by kernel_rfl) (by kernel_rfl) (show Stable Grew _ from ⟨Is.stable _, Is.stable _, Row.stable _, Is.stable _, Is.stable _, trivial⟩)
        · show OpsHold _ _ _ _ _ _ _ _ _
          refine ⟨fun a_ wx hR hD K hK => ?_, ?_⟩
          · have hG : Grew wr wx := (Grew.drew _).trans hR
            simp [Deps, Dep, at_, Is] at hD
            obtain ⟨e0, e1, e2⟩ := HB3.out wx hG
            go_simp
            exact hK _ _ (Grew.refl _) rfl
          refine ⟨fun a_ wx hR hD K hK => ?_, ?_⟩
          · have hG : Grew wr wx := (Grew.drew _).trans hR
            simp [Deps, Dep, at_, Is] at hD
            go_simp
            have hcn := HDG.out wx hG
            with_reducible refine hcn.mono ?_
            clear hcn
            rintro e wy ⟨v, rfl, hv, hg⟩
            exact hK _ _ hg hv
          refine ⟨fun a_ wx hR hD K hK => ?_, ?_⟩
          · have hG : Grew wr wx := (Grew.drew _).trans hR
            have hmk := print_make (P := Try.prog) 45 5 .u8 1 Try.underlying45 info5 (by decide) 32 (by omega)
            rw [show ((32 : Nat) : Int) = 32 from rfl] at hmk
            go_simp
            obtain ⟨Am, cm, hvm, hnm, hcm, hCm⟩ := own_C (own_made wx wx.heap.size 5 .u8 32 (Nat.le_refl _) (by omega))
            exact hK _ _ (Grew.alloc _ _) ⟨Am, cm, by rw [HL3.out]; exact hvm, by rw [HL3.out]; exact hcm, by rw [HL3.out, HL32.out]; exact hCm⟩
          refine ⟨fun a_ wx hR hD K hK => ?_, ?_⟩
          · have hG : Grew wr wx := (Grew.drew _).trans hR
            simp [Deps, Dep, at_, Is] at hD
            obtain ⟨A_, c_, hv_, -, hC_⟩ := hD
            have hcv_ := Kd.C_string (P := Try.prog) (c := c_) Try.underlying45 Try.underlying5 Try.underlying9 hC_
            rw [HL3.out] at hv_ hcv_
            rw [HZ3.out] at hcv_
            clear hC_
            go_simp
            exact hK _ _ (Grew.refl _) rfl
          refine ⟨fun a_ wx hR hD K hK => ?_, ?_⟩
          · have hG : Grew wr wx := (Grew.drew _).trans hR
            simp [Deps, Dep, at_, Is] at hD
            go_simp
            exact hK _ _ (Grew.refl _) rfl
          trivial
        · show EndHold _ _ _ _ _ _ _
          intro v67
          refine end_all (xs := [_, _, _, _]) ⟨rfl, rfl, rfl, rfl, trivial⟩ ?_
          rintro w2 hR1 ⟨-, hMk⟩
          refine ⟨?_⟩
          have hG_w2 : Grew wr w2 := (Grew.drew _).trans hR1
          clear hR1
          simp only [Act.put, List.setIfInBounds_toArray, List.set_cons_succ, List.set_cons_zero, dropN, putEach]
          clear hMk
          go_wp2_with fail
          refine (HCH.out w2 hG_w2).mono ?_
          rintro e w3 ⟨_, rfl, rfl, hg3⟩
          go_wp2_with fail
          refine (lives_c w3).mono ?_
          rintro e w4 ⟨_, rfl, rfl, hg4⟩
          go_wp2_with fail
          go_ret
          exact ⟨_, rfl, rfl, Grew.trans HI.out.grew (Grew.trans hG_w2 (Grew.trans hg3 hg4))⟩
end Go.Proofs.Ytmifoihfpjomaaa.F

-- WSized
-- PRINTED BY print.sh 35421559b90ae4d0a3588c463048766b98c2df88dd9212a6774a882060cdf62d: not written by this session
-- PRINTED WORDS (module Derived/Print/Sized.lean): go-gate-2's, for the rows of laws over slices: an AI agent of Go's test side, Tue Nov 17 2026; no person has read it. Lean checks it.
namespace Go.Proofs.YtmifoihfpjomaaaW.PrintWords
open Go.ChangeShapes Go.WideShapes
/-- A row's slice of whole numbers is no longer than its weight allows. -/
theorem sized_ints {H : Type} {enc : TypeId × Value → H} {P : Program} {W : World} {base : Nat} {spare : Nat → Bool} {held : Bool} {t e : TypeId} {k : IntKind} {a : Option Addr} {len cap : Nat} {d : DataW H} {ps : List MemPlace} {ts : List TypeId} {ds : List (DataW H)} {j : Nat}
    (hsz : (DataW.weightsEach P ts ds).all (· ≤ reachBytes) = true) (ht : ts[j]? = some t) (hd : ds[j]? = some d) (hu : P.underlying t = some (.slice e)) (he : P.underlying e = some (.int k)) (hc : P.cellsOf e = 1) {B : Nat} (hB : P.bytesOf e = B)
    (h : DataW.Trod enc P W base spare held t (.slice a len cap) d ps) : len * B ≤ 140737488351232 := by
  obtain ⟨fuel, hf⟩ := h
  rcases open_ints hu he hc hf with ⟨hcs, _⟩ | ⟨x, l, c, zs, hcs, _, hl, _, hz, hx, _, _⟩
  · simp [Value.cells] at hcs
    obtain ⟨rfl, rfl, rfl⟩ := hcs
    simp
  · simp [Value.cells] at hcs
    obtain ⟨rfl, rfl, rfl⟩ := hcs
    obtain ⟨hx, _⟩ := Prod.mk.inj hx
    subst hx
    have z := sized_slice hsz ht hd hu
    rw [hB] at z
    have hl2 : len ≤ zs.length := by
      rw [hz]
      split
      · exact hl
      · exact Nat.le_refl _
    have h1 : (lits (H := H) k (zs.take len)).length + (lits (H := H) k (zs.drop len)).length = zs.length := by
      simp [lits]
      omega
    rw [h1] at z
    exact Nat.le_trans (Nat.mul_le_mul_right _ hl2) z
end Go.Proofs.YtmifoihfpjomaaaW.PrintWords

-- Open
namespace Go.Proofs.YtmifoihfpjomaaaO
set_option linter.unusedSimpArgs false
open Go Go.RowKit Go.ChangeShapes Go.WideShapes Go.ChangeAt Go.Proofs.YtmifoihfpjomaaaW.PrintWords
/-- cells of type t that can be read as data are some x of kind d -/
def Opens {α : Type} (P : Program) (t : TypeId) (d : Kd α) (ok : α → Prop) : Prop :=
  ∀ (H : Type) (enc : TypeId × Value → H) (W : World) (sp : Nat → Bool) (held : Bool) (fuel : Nat) (cs : List Value) (y : DataW H × List MemPlace), DataW.trod enc P W 0 sp held fuel t cs = some y → ∃ x, d.K W x cs ∧ ok x
section
variable {P : Program} {α : Type}
theorem opens_int {t : TypeId} {k : IntKind} (hu : P.underlying t = some (.int k)) : Opens P t (Kd.int k) (fun x => (Lit.int k x).wf = true) := by
  intro H enc W sp held fuel cs y h
  cases fuel with
  | zero => simp [DataW.trod] at h
  | succ n =>
    have key : ∃ n', cs = [.int k n'] ∧ (Lit.int k n').wf = true := by
      simp only [DataW.trod, hu] at h
      split at h <;> simp_all
    obtain ⟨x, rfl, hx⟩ := key
    exact ⟨x, rfl, hx⟩
theorem opens_bool {t : TypeId} (hu : P.underlying t = some .bool) : Opens P t Kd.bool (fun _ => True) := by
  intro H enc W sp held fuel cs y h
  cases fuel with
  | zero => simp [DataW.trod] at h
  | succ n =>
    have key : ∃ b, cs = [.bool b] := by
      simp only [DataW.trod, hu] at h
      split at h <;> simp_all
    obtain ⟨x, rfl⟩ := key
    exact ⟨x, rfl, trivial⟩
theorem opens_string {t : TypeId} (hu : P.underlying t = some .string) : Opens P t Kd.string (fun s => s.size ≤ maxLen) := by
  intro H enc W sp held fuel cs y h
  cases fuel with
  | zero => simp [DataW.trod] at h
  | succ n =>
    simp only [DataW.trod, hu] at h
    split at h <;> simp_all
    exact ⟨_, rfl, h.1⟩
theorem mapM_get {β γ : Type} {f : β → Option γ} : ∀ {l : List β} {ys : List γ}, l.mapM f = some ys → ys.length = l.length ∧ ∀ (i : Nat) (x : β), l[i]? = some x → ∃ y, f x = some y
  | [], ys, h => by simp at h; subst h; simp
  | a :: l, ys, h => by
    simp only [List.mapM_cons] at h
    obtain ⟨b, hb, h⟩ := Option.bind_eq_some_iff.1 h
    obtain ⟨bs, hbs, h⟩ := Option.bind_eq_some_iff.1 h
    simp at h
    subst h
    have ih := mapM_get hbs
    refine ⟨by simp [ih.1], fun i x hx => ?_⟩
    cases i with
    | zero => simp at hx; subst hx; exact ⟨b, hb⟩
    | succ i => simp at hx; exact ih.2 i x hx
theorem choose_list {ok : α → Prop} {Q : Nat → α → Prop} : ∀ n : Nat, (∀ i, i < n → ∃ x, Q i x ∧ ok x) → ∃ xs : List α, xs.length = n ∧ (∀ (i : Nat) (x : α), xs[i]? = some x → Q i x) ∧ ∀ x ∈ xs, ok x
  | 0, _ => ⟨[], rfl, by simp, by simp⟩
  | n + 1, h => by
    obtain ⟨xs, h1, h2, h3⟩ := choose_list n (fun i hi => h i (by omega))
    obtain ⟨x, hx, hk⟩ := h n (by omega)
    refine ⟨xs ++ [x], by simp [h1], fun i y hy => ?_, fun y hy => ?_⟩
    · rcases Nat.lt_or_ge i n with hlt | hge
      · rw [List.getElem?_append_left (by omega)] at hy; exact h2 i y hy
      · rw [List.getElem?_append_right (by omega)] at hy
        have : i = n := by
          rcases Nat.lt_or_ge n i with h' | h'
          · rw [List.getElem?_eq_none (by simp; omega)] at hy; cases hy
          · omega
        subst this
        simp [h1] at hy
        subst hy; exact hx
    · rcases List.mem_append.1 hy with hy | hy
      · exact h3 y hy
      · simp at hy; subst hy; exact hk
theorem cells_get {W : World} {a : Addr} {n : Nat} {cs : List Value} (h : W.cells? 0 a n = some cs) : cs.length = n ∧ ∀ (i : Nat) (u : Value), cs[i]? = some u → W.cell? (a.add i) = some u := by
  unfold World.cells? at h
  rw [if_pos (Nat.zero_le _)] at h
  have h1 := mapM_get h
  refine ⟨by simpa using h1.1, fun i u hu => ?_⟩
  have hi : i < n := by
    have := (List.getElem?_eq_some_iff.1 hu).1
    rw [h1.1] at this; simpa using this
  obtain ⟨y, hy⟩ := h1.2 i i (by simp [hi])
  have key : ∀ (l : List Nat) (ys : List Value), l.mapM (fun i => W.cell? (a.add i)) = some ys → ∀ (j : Nat), ys[j]? = (l[j]?).bind fun i => W.cell? (a.add i) := by
    intro l
    induction l with
    | nil => intro ys h j; simp at h; subst h; simp
    | cons b l ih =>
      intro ys h j
      simp only [List.mapM_cons] at h
      obtain ⟨c, hc, h⟩ := Option.bind_eq_some_iff.1 h
      obtain ⟨cs', hcs, h⟩ := Option.bind_eq_some_iff.1 h
      simp at h; subst h
      cases j with
      | zero => simp [hc]
      | succ j => simpa using ih cs' hcs j
  have := key _ _ h i
  rw [hu] at this
  simp [hi] at this
  exact this.symm
theorem opens_slice {t e : TypeId} {d : Kd α} {ok : α → Prop} (hu : P.underlying t = some (.slice e)) (he : Opens P e d ok) (hc : P.cellsOf e = d.sz) : Opens P t (Kd.slice e d) (fun xs => ∀ x ∈ xs, ok x) := by
  intro H enc W sp held fuel cs y h
  cases fuel with
  | zero => simp [DataW.trod] at h
  | succ n =>
    have key : cs = [.slice none 0 0] ∨ ∃ a len cap, cs = [.slice (some a) len cap] ∧ len ≤ cap ∧ cap ≤ maxLen ∧ ∃ elems, (List.range len).mapM (fun i => (W.cells? 0 (a.add (i * P.cellsOf e)) (P.cellsOf e)).bind (DataW.trod enc P W 0 sp held n e)) = some elems := by
      simp only [DataW.trod, hu] at h
      split at h <;> try (simp_all; done)
      rename_i e' a len cap heq
      simp only [Option.some.injEq, TypeDesc.slice.injEq] at heq
      subst heq
      split at h
      · rename_i hb
        obtain ⟨elems, he1, _⟩ := Option.bind_eq_some_iff.1 h
        exact .inr ⟨a, len, cap, rfl, hb.2.1, hb.2.2, elems, he1⟩
      · cases h
    rcases key with rfl | ⟨a, len, cap, rfl, h1, h2, elems, he1⟩
    · exact ⟨[], ⟨none, 0, rfl, by simp, by simp [Kd.C, ReadsRow]⟩, by simp⟩
    · rw [hc] at he1
      have hm := mapM_get he1
      obtain ⟨xs, x1, x2, x3⟩ := choose_list (ok := ok) (Q := fun i x => ∃ c, W.cells? 0 (a.add (i * d.sz)) d.sz = some c ∧ d.K W x c) len (fun i hi => by
        obtain ⟨z, hz⟩ := hm.2 i i (by simp [hi])
        obtain ⟨c, hc1, hc2⟩ := Option.bind_eq_some_iff.1 hz
        obtain ⟨x, hx, hk⟩ := he H enc W sp held n c z hc2
        exact ⟨x, ⟨c, hc1, hx⟩, hk⟩)
      refine ⟨xs, ⟨some a, cap, by rw [x1], by omega, ?_⟩, x3⟩
      refine ⟨rfl, by have : maxLen = 9223372036854775807 := rfl; omega, fun _ => ⟨a, rfl, fun j p hp => ?_⟩⟩
      obtain ⟨c, hc1, hk⟩ := x2 j p hp
      have hg := cells_get hc1
      refine ⟨c, hg.1, hk, fun i u hiu => ?_⟩
      have := hg.2 i u hiu
      rw [← this]
      congr 1
      unfold Addr.add
      by_cases z1 : j * d.sz = 0
      · rw [if_pos z1]
        by_cases z2 : i = 0
        · simp [z1, z2]
        · rw [if_neg (by omega), if_neg z2]; simp [z1]
      · rw [if_neg z1, if_neg (by omega)]
        by_cases z2 : i = 0
        · simp [z2]
        · rw [if_neg z2]; simp [Nat.add_assoc]
theorem opens_array {t e n : Nat} {d : Kd α} {ok : α → Prop} (hs : 0 < d.sz) (hu : P.underlying t = some (.array n e)) (he : Opens P e d ok) (hc : P.cellsOf e = d.sz) (ht : P.cellsOf t = n * d.sz) : Opens P t (Kd.arr n d hs) (fun xs => ∀ x ∈ xs, ok x) := by
  intro H enc W sp held fuel cs y h
  cases fuel with
  | zero => simp [DataW.trod] at h
  | succ m =>
    simp only [DataW.trod, hu] at h
    split at h
    · rename_i hl
      obtain ⟨ys, hy, _⟩ := Option.map_eq_some_iff.1 h
      have hm := mapM_get hy
      obtain ⟨xs, x1, x2, x3⟩ := choose_list (ok := ok) (Q := fun i x => d.K W x ((cs.drop (i * d.sz)).take d.sz)) n (fun i hi => by
        obtain ⟨z, hz⟩ := hm.2 i i (by simp [hi])
        rw [hc] at hz
        exact he H enc W sp held m _ z hz)
      exact ⟨xs, ⟨x1, by rw [x1, hl, ht], x2⟩, x3⟩
    · cases h
/-- an argument of a kind -/
theorem opens_arg {t : TypeId} {d : Kd α} {ok : α → Prop} (ho : Opens P t d ok) {H : Type} {enc : TypeId × Value → H} {W : World} {sp : Nat → Bool} {held : Bool} {v : Value} {y : DataW H} {ps : List MemPlace} (h : DataW.Trod enc P W 0 sp held t v y ps) : ∃ x, d.K W x v.cells.toList ∧ ok x := by
  obtain ⟨fuel, hf⟩ := h
  exact ho H enc W sp held fuel _ _ hf
theorem okWide_array {t n e : Nat} {r : Reach} {b0 : Nat} {v : Value} {W : World} (hu : P.underlying t = some (.array n e)) (h : Value.okWide P W r b0 t v) : ∃ cs, v = .agg cs ∧ cs.size = P.cellsOf t := by
  simp only [Value.okWide, hu] at h
  obtain ⟨cs, h1, h2, _⟩ := h
  exact ⟨cs, h1, h2⟩
theorem arr2 {d : Kd α} {hs : 0 < d.sz} (h1 : d.sz = 1) {W : World} {x : List α} {cs : Array Value} (h : (Kd.arr 2 d hs).K W x cs.toList) : ∃ a b c0 c1, x = [a, b] ∧ cs = #[c0, c1] ∧ d.K W a [c0] ∧ d.K W b [c1] := by
  obtain ⟨hl, hc, hr⟩ := h
  rw [hl, h1] at hc
  obtain ⟨l⟩ := cs
  match x, hl, l, hc, hr with
  | [a, b], _, [c0, c1], _, hr => exact ⟨a, b, c0, c1, rfl, rfl, by have := hr 0 a rfl; rw [h1] at this; exact this, by have := hr 1 b rfl; rw [h1] at this; exact this⟩
theorem arr3 {d : Kd α} {hs : 0 < d.sz} (h1 : d.sz = 1) {W : World} {x : List α} {cs : Array Value} (h : (Kd.arr 3 d hs).K W x cs.toList) : ∃ a b c c0 c1 c2, x = [a, b, c] ∧ cs = #[c0, c1, c2] ∧ d.K W a [c0] ∧ d.K W b [c1] ∧ d.K W c [c2] := by
  obtain ⟨hl, hc, hr⟩ := h
  rw [hl, h1] at hc
  obtain ⟨l⟩ := cs
  match x, hl, l, hc, hr with
  | [a, b, c], _, [c0, c1, c2], _, hr => exact ⟨a, b, c, c0, c1, c2, rfl, rfl, by have := hr 0 a rfl; rw [h1] at this; exact this, by have := hr 1 b rfl; rw [h1] at this; exact this, by have := hr 2 c rfl; rw [h1] at this; exact this⟩
end
end Go.Proofs.YtmifoihfpjomaaaO

-- OpenW
namespace Go.Proofs.YtmifoihfpjomaaaO
set_option linter.unusedSimpArgs false
open Go Go.RowKit Go.ChangeShapes Go.WideShapes Go.ChangeAt Go.Proofs.YtmifoihfpjomaaaW.PrintWords
/-- cells of type t that can be read as data of no more weight than is reached are some x of kind d -/
def OpensW {α : Type} (P : Program) (t : TypeId) (d : Kd α) (ok : α → Prop) : Prop :=
  ∀ (H : Type) (enc : TypeId × Value → H) (W : World) (sp : Nat → Bool) (held : Bool) (fuel : Nat) (cs : List Value) (y : DataW H × List MemPlace), DataW.trod enc P W 0 sp held fuel t cs = some y → (∀ n ∈ y.1.weights P t, n ≤ reachBytes) → ∃ x, d.K W x cs ∧ ok x
section
variable {P : Program} {α : Type}
theorem Opens.w {t : TypeId} {d : Kd α} {ok : α → Prop} (h : Opens P t d ok) : OpensW P t d ok := fun H enc W sp held fuel cs y hy _ => h H enc W sp held fuel cs y hy
theorem opensW_string {t : TypeId} (hu : P.underlying t = some .string) : OpensW P t Kd.string (fun s => s.size ≤ 140737488351232) := by
  intro H enc W sp held fuel cs y h hw
  cases fuel with
  | zero => simp [DataW.trod] at h
  | succ n =>
    have key : ∃ s, cs = [.string s] ∧ y.1 = .lit (.string s.data.toList) := by
      simp only [DataW.trod, hu] at h
      split at h <;> simp_all
      rw [← h.2]
    obtain ⟨s, rfl, hy⟩ := key
    refine ⟨s, rfl, ?_⟩
    have := hw s.size (by rw [hy]; simp [DataW.weights])
    exact this
theorem mapM_mem {β γ : Type} {f : β → Option γ} : ∀ {l : List β} {ys : List γ}, l.mapM f = some ys → ∀ (x : β) (z : γ), x ∈ l → f x = some z → z ∈ ys
  | [], ys, h, x, z, hx, _ => by simp at hx
  | a :: l, ys, h, x, z, hx, hz => by
    simp only [List.mapM_cons] at h
    obtain ⟨b, hb, h⟩ := Option.bind_eq_some_iff.1 h
    obtain ⟨bs, hbs, h⟩ := Option.bind_eq_some_iff.1 h
    simp at h
    subst h
    rcases List.mem_cons.1 hx with rfl | hx
    · rw [hb] at hz; injection hz with hz; subst hz; simp
    · exact List.mem_cons_of_mem _ (mapM_mem hbs x z hx hz)
theorem weightsAll_mem {H : Type} {e : TypeId} {d : DataW H} {n : Nat} : ∀ {ds : List (DataW H)}, d ∈ ds → n ∈ d.weights P e → n ∈ DataW.weightsAll P e ds
  | [], h, _ => by simp at h
  | a :: ds, h, hn => by
    simp only [DataW.weightsAll]
    rcases List.mem_cons.1 h with rfl | h
    · exact List.mem_append_left _ hn
    · exact List.mem_append_right _ (weightsAll_mem h hn)
theorem opensW_slice {t e : TypeId} {d : Kd α} {ok : α → Prop} (hu : P.underlying t = some (.slice e)) (he : OpensW P e d ok) (hc : P.cellsOf e = d.sz) : OpensW P t (Kd.slice e d) (fun xs => ∀ x ∈ xs, ok x) := by
  intro H enc W sp held fuel cs y h hw
  cases fuel with
  | zero => simp [DataW.trod] at h
  | succ n =>
    have key : cs = [.slice none 0 0] ∨ ∃ a len cap, cs = [.slice (some a) len cap] ∧ len ≤ cap ∧ cap ≤ maxLen ∧ ∃ elems rest, (List.range len).mapM (fun i => (W.cells? 0 (a.add (i * P.cellsOf e)) (P.cellsOf e)).bind (DataW.trod enc P W 0 sp held n e)) = some elems ∧ y.1 = .slice (elems.map (·.1)) rest := by
      simp only [DataW.trod, hu] at h
      split at h <;> try (simp_all; done)
      rename_i e' a len cap heq
      simp only [Option.some.injEq, TypeDesc.slice.injEq] at heq
      subst heq
      split at h
      · rename_i hb
        obtain ⟨elems, he1, h⟩ := Option.bind_eq_some_iff.1 h
        obtain ⟨rest, _, h⟩ := Option.map_eq_some_iff.1 h
        refine .inr ⟨a, len, cap, rfl, hb.2.1, hb.2.2, elems, rest.map (·.1), he1, ?_⟩
        rw [← h]
      · cases h
    rcases key with rfl | ⟨a, len, cap, rfl, h1, h2, elems, rest, he1, hy⟩
    · exact ⟨[], ⟨none, 0, rfl, by simp, by simp [Kd.C, ReadsRow]⟩, by simp⟩
    · rw [hc] at he1
      have hm := mapM_get he1
      obtain ⟨xs, x1, x2, x3⟩ := choose_list (ok := ok) (Q := fun i x => ∃ c, W.cells? 0 (a.add (i * d.sz)) d.sz = some c ∧ d.K W x c) len (fun i hi => by
        obtain ⟨z, hz⟩ := hm.2 i i (by simp [hi])
        have hmem := mapM_mem he1 i z (by simp [hi]) hz
        obtain ⟨c, hc1, hc2⟩ := Option.bind_eq_some_iff.1 hz
        obtain ⟨x, hx, hk⟩ := he H enc W sp held n c z hc2 (fun q hq => hw q (by
          rw [hy]
          simp only [DataW.weights, hu]
          exact List.mem_cons_of_mem _ (List.mem_append_left _ (weightsAll_mem (List.mem_map_of_mem hmem) hq))))
        exact ⟨x, ⟨c, hc1, hx⟩, hk⟩)
      refine ⟨xs, ⟨some a, cap, by rw [x1], by omega, ?_⟩, x3⟩
      refine ⟨rfl, by have : maxLen = 9223372036854775807 := rfl; omega, fun _ => ⟨a, rfl, fun j p hp => ?_⟩⟩
      obtain ⟨c, hc1, hk⟩ := x2 j p hp
      have hg := cells_get hc1
      refine ⟨c, hg.1, hk, fun i u hiu => ?_⟩
      have := hg.2 i u hiu
      rw [← this]
      congr 1
      unfold Addr.add
      by_cases z1 : j * d.sz = 0
      · rw [if_pos z1]
        by_cases z2 : i = 0
        · simp [z1, z2]
        · rw [if_neg (by omega), if_neg z2]; simp [z1]
      · rw [if_neg z1, if_neg (by omega)]
        by_cases z2 : i = 0
        · simp [z2]
        · rw [if_neg z2]; simp [Nat.add_assoc]
theorem opensW_array {t e n : Nat} {d : Kd α} {ok : α → Prop} (hs : 0 < d.sz) (hu : P.underlying t = some (.array n e)) (he : OpensW P e d ok) (hc : P.cellsOf e = d.sz) (ht : P.cellsOf t = n * d.sz) : OpensW P t (Kd.arr n d hs) (fun xs => ∀ x ∈ xs, ok x) := by
  intro H enc W sp held fuel cs y h hw
  cases fuel with
  | zero => simp [DataW.trod] at h
  | succ m =>
    simp only [DataW.trod, hu] at h
    split at h
    · rename_i hl
      obtain ⟨ys, hy, hyy⟩ := Option.map_eq_some_iff.1 h
      have hm := mapM_get hy
      obtain ⟨xs, x1, x2, x3⟩ := choose_list (ok := ok) (Q := fun i x => d.K W x ((cs.drop (i * d.sz)).take d.sz)) n (fun i hi => by
        obtain ⟨z, hz⟩ := hm.2 i i (by simp [hi])
        have hmem := mapM_mem hy i z (by simp [hi]) hz
        rw [hc] at hz
        exact he H enc W sp held m _ z hz (fun q hq => hw q (by
          rw [← hyy]
          simp only [DataW.weights, hu]
          exact weightsAll_mem (List.mem_map_of_mem hmem) hq)))
      exact ⟨xs, ⟨x1, by rw [x1, hl, ht], x2⟩, x3⟩
    · cases h
/-- an argument of a kind -/
theorem opensW_arg {t : TypeId} {d : Kd α} {ok : α → Prop} (ho : OpensW P t d ok) {H : Type} {enc : TypeId × Value → H} {W : World} {sp : Nat → Bool} {held : Bool} {v : Value} {y : DataW H} {ps : List MemPlace} {ts : List TypeId} {ds : List (DataW H)} {j : Nat}
    (hsz : (DataW.weightsEach P ts ds).all (· ≤ reachBytes) = true) (ht : ts[j]? = some t) (hd : ds[j]? = some y) (h : DataW.Trod enc P W 0 sp held t v y ps) : ∃ x, d.K W x v.cells.toList ∧ ok x := by
  obtain ⟨fuel, hf⟩ := h
  exact ho H enc W sp held fuel _ _ hf (fun n hn => by
    have := List.all_eq_true.1 hsz _ (DataW.weights_mem_each ht hd n hn)
    simpa using this)
end
end Go.Proofs.YtmifoihfpjomaaaO

-- OpenS
namespace Go.Proofs.YtmifoihfpjomaaaO
set_option linter.unusedSimpArgs false
open Go Go.RowKit Go.ChangeShapes Go.WideShapes Go.ChangeAt Go.Proofs.YtmifoihfpjomaaaW.PrintWords
section
variable {P : Program} {α β : Type}
/-- the fields from a place on -/
def OpensF (P : Program) (fs : List Field) (off : Nat) (d : Kd α) (ok : α → Prop) : Prop :=
  ∀ (H : Type) (enc : TypeId × Value → H) (W : World) (sp : Nat → Bool) (held : Bool) (fuel : Nat) (cs : List Value) (ys : List (DataW H × List MemPlace)),
    fs.mapM (fun f => DataW.trod enc P W 0 sp held fuel f.type ((cs.drop f.offset).take (P.cellsOf f.type))) = some ys → (∀ n ∈ DataW.weightsEach P (fs.map (·.type)) (ys.map (·.1)), n ≤ reachBytes) →
    ∃ x, d.K W x ((cs.drop off).take d.sz) ∧ ok x
theorem opensF_one {f : Field} {d : Kd α} {ok : α → Prop} (h : OpensW P f.type d ok) (hc : P.cellsOf f.type = d.sz) : OpensF P [f] f.offset d ok := by
  intro H enc W sp held fuel cs ys hy hw
  simp only [List.mapM_cons, List.mapM_nil] at hy
  obtain ⟨y, hy1, hy⟩ := Option.bind_eq_some_iff.1 hy
  simp at hy
  subst hy
  rw [hc] at hy1
  exact h H enc W sp held fuel _ y hy1 fun n hn => hw n (by simp [DataW.weightsEach, hn])
theorem opensF_cons {f : Field} {fs : List Field} {d : Kd α} {d2 : Kd β} {ok : α → Prop} {ok2 : β → Prop} (h : OpensW P f.type d ok) (hc : P.cellsOf f.type = d.sz) (h2 : OpensF P fs (f.offset + d.sz) d2 ok2) :
    OpensF P (f :: fs) f.offset (Kd.pair d d2) (fun x => ok x.1 ∧ ok2 x.2) := by
  intro H enc W sp held fuel cs ys hy hw
  simp only [List.mapM_cons] at hy
  obtain ⟨y, hy1, hy⟩ := Option.bind_eq_some_iff.1 hy
  obtain ⟨ys2, hy2, hy⟩ := Option.bind_eq_some_iff.1 hy
  simp at hy
  subst hy
  rw [hc] at hy1
  obtain ⟨x1, k1, o1⟩ := h H enc W sp held fuel _ y hy1 fun n hn => hw n (by simp [DataW.weightsEach, hn])
  obtain ⟨x2, k2, o2⟩ := h2 H enc W sp held fuel cs ys2 hy2 fun n hn => hw n (by
    simp only [List.map_cons, DataW.weightsEach]
    exact List.mem_append_right _ hn)
  refine ⟨(x1, x2), ⟨_, _, ?_, k1, k2⟩, o1, o2⟩
  show (cs.drop f.offset).take (d.sz + d2.sz) = _
  rw [List.take_add, List.drop_drop]
theorem opensW_struct {t : TypeId} {fs : Array Field} {d : Kd α} {ok : α → Prop} (hu : P.underlying t = some (.struct fs)) (h : OpensF P fs.toList 0 d ok) (hc : P.cellsOf t = d.sz) : OpensW P t d ok := by
  intro H enc W sp held fuel cs y hy hw
  cases fuel with
  | zero => simp [DataW.trod] at hy
  | succ n =>
    have key : cs.length = P.cellsOf t ∧ ∃ ys, fs.toList.mapM (fun f => DataW.trod enc P W 0 sp held n f.type ((cs.drop f.offset).take (P.cellsOf f.type))) = some ys ∧ y.1 = .agg (ys.map (·.1)) := by
      simp only [DataW.trod, hu] at hy
      split at hy
      · rename_i hl
        obtain ⟨ys, h1, h2⟩ := Option.map_eq_some_iff.1 hy
        exact ⟨hl, ys, h1, by rw [← h2]⟩
      · cases hy
    obtain ⟨hl, ys, hy1, hy2⟩ := key
    obtain ⟨x, hx, ho⟩ := h H enc W sp held n cs ys hy1 fun q hq => hw q (by
      rw [hy2]
      simp only [DataW.weights, hu]
      exact hq)
    refine ⟨x, ?_, ho⟩
    rw [List.drop_zero, ← hc, ← hl, List.take_length] at hx
    exact hx
theorem opensW_iso {t : TypeId} {d : Kd α} {ok : α → Prop} (f : β → α) (g : α → β) (hfg : ∀ x, f (g x) = x) (h : OpensW P t d ok) : OpensW P t (Kd.iso d f) (fun x => ok (f x)) := by
  intro H enc W sp held fuel cs y hy hw
  obtain ⟨x, hx, ho⟩ := h H enc W sp held fuel cs y hy hw
  exact ⟨g x, by show d.K W (f (g x)) cs; rw [hfg]; exact hx, by show ok (f (g x)); rw [hfg]; exact ho⟩
theorem okWide_struct {t : TypeId} {fs : Array Field} {r : Reach} {b0 : Nat} {v : Value} {W : World} (hu : P.underlying t = some (.struct fs)) (h : Value.okWide P W r b0 t v) : ∃ cs, v = .agg cs ∧ cs.size = P.cellsOf t := by
  simp only [Value.okWide, hu] at h
  obtain ⟨cs, h1, h2, _⟩ := h
  exact ⟨cs, h1, h2⟩
end
end Go.Proofs.YtmifoihfpjomaaaO

-- RowAuditPlays
namespace Go.Proofs.Ytmifoihfpjomaaa.auditPlays
open Go.ChangeShapes Go.WideShapes Go.ChangeAt Go.RowKit
open Go.ChangeMaps (open_string shut_string)
set_option linter.unusedVariables false
set_option linter.unusedSimpArgs false
theorem own : ownKnob Try.prog.godebug = none := by kernel_rfl
theorem laidOut : laidOutB Try.prog = true := by kernel_rfl
set_option maxRecDepth 100000 in
theorem lifted (os : Os) (started : os.Started) (H : Type) (enc : TypeId × Value → H) :
    ReturnsInHanded {} Try.checked os 5 .any (Rows.auditPlaysSpec.pre6 enc Try.prog Try.f5 Rows.auditPlaysRow.domain false) (Rows.auditPlaysSpec.post enc Try.prog Try.f5 false true false false) := by
  refine returnsInHanded_of_change_sized (C := Try.checked) own started (by kernel_rfl) Try.func5
    (ChangeSpec.witness6 (enc := enc) (C := Try.checked) false ⟨#[], #[.slice none 0 0], []⟩ 8 (by kernel_rfl) (by kernel_rfl) (by kernel_rfl) (by kernel_rfl)) ?_
  intro W base args ds gs before hval0 hW hcnd hsz0 _
  have hsz : (DataW.weightsEach Try.prog (Try.f5.params.toList ++ Rows.auditPlaysSpec.plain.varTypes Try.prog) (ds ++ gs)).all (· ≤ reachBytes) = true := hsz0
  have hval : ∀ (j : Nat) t v, Try.f5.params[j]? = some t → args[j]? = some v → Value.okWide Try.prog W .any base t v := hval0
  have hW' := hW
  obtain ⟨p, q, hA0, hV, rfl, hfz, hnd⟩ := hW
  have hA : DataW.TrodAll enc Try.prog W 0 (fun _ => true) true Try.f5.params.toList args.toList ds p := hA0
  rw [Try.params5] at hA hval hsz
  obtain ⟨v0, vs0, d0, ds0, p0, q0, hargs, rfl, rfl, h0, r0⟩ := trodAll_cons hA
  obtain ⟨rfl, rfl, rfl⟩ := trodAll_nil r0
  obtain rfl : args = #[v0] := by cases args; simp_all
  obtain ⟨rfl, rfl⟩ := trodVars_none hV
  obtain ⟨a0, len0, cap0, rfl⟩ := okWide_slice Try.underlying22 (hval 0 22 v0 rfl rfl)
  have k0 := h0
  have lt0 : ∀ x ∈ p0, x.block < W.heap.size := by obtain ⟨m, hm⟩ := k0; exact DataW.trod_lt m _ _ _ hm
  obtain ⟨x0, ⟨A0, cp0, e0, hc0, hC0⟩, ok0⟩ := Go.Proofs.YtmifoihfpjomaaaO.opensW_arg (d := (Go.Proofs.YtmifoihfpjomaaaW.PrintWords.Kd.slice 36 Go.Proofs.Ytmifoihfpjomaaa.F.k36)) (Go.Proofs.YtmifoihfpjomaaaO.opensW_slice Try.underlying22 (show Go.Proofs.YtmifoihfpjomaaaO.OpensW _ _ Go.Proofs.Ytmifoihfpjomaaa.F.k36 _ from Go.Proofs.YtmifoihfpjomaaaO.opensW_iso (fun x : Go.Proofs.Ytmifoihfpjomaaa.F.S36 => (x.f0, x.f1, x.f2, x.f3, x.f4)) (fun p => ⟨p.1, p.2.1, p.2.2.1, p.2.2.2.1, p.2.2.2.2⟩) (fun _ => rfl) (Go.Proofs.YtmifoihfpjomaaaO.opensW_struct Try.underlying36 (Go.Proofs.YtmifoihfpjomaaaO.opensF_cons (Go.Proofs.YtmifoihfpjomaaaO.Opens.w (Go.Proofs.YtmifoihfpjomaaaO.opens_int Try.underlying3)) (by kernel_rfl) (Go.Proofs.YtmifoihfpjomaaaO.opensF_cons (Go.Proofs.YtmifoihfpjomaaaO.Opens.w (Go.Proofs.YtmifoihfpjomaaaO.opens_int Try.underlying3)) (by kernel_rfl) (Go.Proofs.YtmifoihfpjomaaaO.opensF_cons (Go.Proofs.YtmifoihfpjomaaaO.Opens.w (Go.Proofs.YtmifoihfpjomaaaO.opens_int Try.underlying3)) (by kernel_rfl) (Go.Proofs.YtmifoihfpjomaaaO.opensF_cons (Go.Proofs.YtmifoihfpjomaaaO.opensW_string Try.underlying9) (by kernel_rfl) (Go.Proofs.YtmifoihfpjomaaaO.opensF_one (Go.Proofs.YtmifoihfpjomaaaO.Opens.w (Go.Proofs.YtmifoihfpjomaaaO.opens_int Try.underlying34)) (by kernel_rfl)))))) (by kernel_rfl))) (by kernel_rfl)) hsz (j := 0) (t := 22) rfl rfl h0
  obtain ⟨rfl, rfl, rfl⟩ := Value.slice.inj (List.cons.inj e0).1
  clear hA0 hval0 hsz0 hsz
  refine (Go.Proofs.YtmifoihfpjomaaaR.is_tells (Go.Proofs.Ytmifoihfpjomaaa.F.AuditPlays_c W a0 cap0 x0 hC0 hc0 ok0)).mono fun e W' ⟨he, bel⟩ => ?_
  subst he
  exact ⟨_, rfl, _, _, _, [], _, [], hW', trodAll_mk1 (shut_bool Try.underlying4 _), (trodAll_cons_mk (Below.trod laidOut (by kernel_rfl) (of_decide_eq_true (by kernel_rfl)) k0 bel lt0) trodAll_mk0), rfl, bel.frame _, fun h => by cases h⟩
theorem over : Rows.auditPlaysRow.holds Try.pinned (OpenSpec.ofChange Rows.auditPlaysSpec) :=
  OpenClaim.holds_of_wide 5 Try.f5 rfl rfl rfl rfl rfl rfl rfl ⟨rfl, rfl, rfl, rfl, rfl⟩ rfl rfl rfl rfl rfl (by kernel_rfl) Try.func5 (by kernel_rfl)
    (of_decide_eq_true (by kernel_rfl)) (by unfold Func.isWrapper; first | (rw [if_pos (by decide +kernel)]; kernel_rfl) | (rw [if_neg (by decide +kernel)]; exact ⟨rfl, rfl⟩))
    (fun os started H enc _ => lifted os started H enc)
end Go.Proofs.Ytmifoihfpjomaaa.auditPlays
namespace Go.Proofs.Ytmifoihfpjomaaa
/-- The row, under a short name, for the claim. -/
theorem auditPlays_holds : Rows.AuditPlaysSaid := auditPlays.over
#print axioms auditPlays_holds
end Go.Proofs.Ytmifoihfpjomaaa
