/- The row of the law AuditChains: for every input the law's call returns true, whatever memory; no condition. Out of the contract AuditChains_c. -/
import Derived.Test.YtmifoihfpjomaaaSD
import Derived.SizedLaws
import Derived.ChangeSlices
import Derived.Test.YtmifoihfpjomaaaVArr
import Derived.WideKeyArr2
import Derived.WalkKit
import Derived.ProofKit
import Derived.OpenShut
import Derived.Test.YtmifoihfpjomaaaRows
import Derived.ShutString
import Derived.ChangeOld
import Derived.Below
import Derived.Lib.SmallJoins

-- AuditChains
namespace Go.Proofs.Ytmifoihfpjomaaa.F
open Go Go.RowKit Go.Proofs.YtmifoihfpjomaaaW.PrintWords Go.Proofs.YtmifoihfpjomaaaW.PrintLast Go.Proofs.YtmifoihfpjomaaaW.PrintMore Go.Proofs.YtmifoihfpjomaaaM Go.Proofs.YtmifoihfpjomaaaR
attribute [local go_sem] max2_int min2_int max_two min_two
set_option linter.unusedSimpArgs false
set_option linter.unusedVariables false
set_option maxRecDepth 100000
def unA (last : Int) : Option (ByteArray × List En) → ByteArray × Int × List En × Int
  | none => (⟨#[]⟩, 0, [], 1)
  | some r => (r.1, last + 1, r.2, 0)
theorem addV_un {base : Nat} {last : Int} {r : Option (ByteArray × List En)} {w : World} {v : Value} (h : AddV base last r w v) : ∃ v0, v = .tuple #[.agg #[.string (unA last r).1, .int .i64 (unA last r).2.1, v0], .int .i64 (unA last r).2.2.2] ∧ RowO w base 36 5 v0 (unA last r).2.2.1.length (ens (unA last r).2.2.1) := by
  cases r with
  | none => exact ⟨_, h, rowO_nil _ _ _ _⟩
  | some r => exact h
theorem rowO_C' {w : World} {base n c : Nat} {A : Option Addr} {l : List En} (h : RowO w base 36 5 (.slice A n c) n (ens l)) (hl : l.length = n) : Kd.C k36 w A n l := by
  obtain ⟨A', c', he, -, hC⟩ := rowO_C h hl
  injection he with e1 e2 e3
  rw [e1]
  exact hC
set_option maxHeartbeats 8000000 in
theorem AuditChains_c (w : World) (a : ByteArray) (last : Int) (A : Option Addr) (c : Nat) (l : List En) (s t k : Int) (p : ByteArray) (x : Int) {Q0 Q1 Q2 Q3 Q4 Q5 Q6 Q7 : Prop} (ok0 : Q0) (ok1 : Q1) (hr : Kd.C k36 w A l.length l) (hc : l.length ≤ c) (ok2 : Q2) (ok3 : Q3) (ok4 : Q4) (ok5 : Q5) (ok6 : Q6) (ok7 : Q7) :
    Calls Try.prog 6 #[.agg #[.string a, .int .i64 last, .slice A l.length c], .agg #[.int .i64 s, .int .i64 t, .int .i64 k, .string p, .int .i64 x]] w (Tells w (Is (.bool true))) := by
  clear ok0 ok1 ok2 ok3 ok4 ok5 ok6 ok7
  obtain ⟨sb, hsb, hsm⟩ := small_c a last l
  have HSM := Lib.hid (fun wx (h : Grew w wx) => hsm wx A c (Kd.C_below hr h) hc)
  have HCA := Lib.hid (fun wx (h : Grew w wx) => Kd.C_below hr h)
  have HMI := Lib.hid (fun wx (h : Grew w wx) (hl : l.length ≤ 40) => mine_c a last A c l wx (Kd.C_below hr h) hc (by omega))
  have HAD := Lib.hid (fun wx A' c' (h : Kd.C k36 wx A' l.length l) (hc' : l.length ≤ c') => add_c a last A' c' l s t k p x wx h hc')
  have HDG := Lib.hid (fun wx A' c' (h : Kd.C k36 wx A' l.length l) (hc' : l.length ≤ c') => digest_c a last A' c' l wx h hc')
  obtain ⟨n, hn⟩ : ∃ n, n = l.length := ⟨_, rfl⟩
  have HSB := Lib.hid hsb
  have HN := Lib.hid hn
  rw [← hn] at HSM HCA HMI hc ⊢
  obtain ⟨ps, hps⟩ : ∃ ps, p.size = ps := ⟨_, rfl⟩
  obtain ⟨W0, hW0⟩ : ∃ W0, W0 = (w.alloc (.cells #[.string a, .int .i64 last, .slice A n c] 24)).alloc (.cells #[.int .i64 s, .int .i64 t, .int .i64 k, .string p, .int .i64 x] 36) := ⟨_, rfl⟩
  obtain ⟨H, hH⟩ : ∃ H, H = w.heap.size := ⟨_, rfl⟩
  have hb0 : Blk W0 H 24 [.string a, .int .i64 last, .slice A n c] := by rw [hW0, hH]; exact (Blk.new w _ _).grew (Grew.alloc _ _)
  have hb1 : Blk W0 (H + 1) 36 [.int .i64 s, .int .i64 t, .int .i64 k, .string p, .int .i64 x] := by
    rw [hW0, hH]
    have := Blk.new (w.alloc (.cells #[.string a, .int .i64 last, .slice A n c] 24)) 36 [.int .i64 s, .int .i64 t, .int .i64 k, .string p, .int .i64 x]
    simpa using this
  have hg0 : Grew w W0 := by rw [hW0]; exact (Grew.alloc _ _).trans (Grew.alloc _ _)
  have HB0 := Lib.hid (fun wx (h : Grew W0 wx) => hb0.grew h)
  have HB1 := Lib.hid (fun wx (h : Grew W0 wx) => hb1.grew h)
  have HG0 := Lib.hid hg0
  have HWE := Lib.hid hW0
  have HHE := Lib.hid hH
  clear hr hsm hsb hn hb0 hb1 hg0 hW0 hH
  go_enter Try.func6, Try.ntmps6
  go_wp2_with fail
  rw [← HWE.out]
  rw [← HHE.out]
  refine (HSM.out W0 HG0.out).mono ?_
  rintro e w1 ⟨_, rfl, rfl, hg1⟩
  have j3 := (HB1.out w1 hg1).at_ 3
  simp only [List.getElem?_cons_zero, List.getElem?_cons_succ] at j3
  by_cases hgo : sb = true ∧ ps ≤ 1000
  · obtain ⟨rfl, hp1⟩ := hgo
    have hl40 := HSB.out rfl
    rw [← HN.out] at hl40
    have d1 : decide (1000 < ps) = false := decide_eq_false (by omega)
    have d1' : decide (1000 < (ps : Int)) = false := decide_eq_false (by omega)
    have b0 := HB0.out w1 hg1
    have k0 := b0.at_ 0
    have k1 := b0.at_ 1
    have k2 := b0.at_ 2
    simp only [List.getElem?_cons_zero, List.getElem?_cons_succ] at k0 k1 k2
    clear b0
    go_wp2_with fail
    clear j3 k0 k1 k2 d1 d1' hps hp1
    obtain ⟨⟨ra, rn, rl, re⟩, hre⟩ : ∃ r, r = unA last (addP a last l ⟨s, t, k, p, x⟩) := ⟨_, rfl⟩
    have HAD2 := Lib.hid (fun wx A' c' (h : Kd.C k36 wx A' l.length l) (hc' : l.length ≤ c') (N : Nat) (hN : N ≤ wx.heap.size) => (HAD.out wx A' c' h hc').mono fun e w' ht => (show Tells wx (AddT N ra rn rl re) e w' from by
      obtain ⟨v, he, hv, hg⟩ := ht
      obtain ⟨v0, h1, h2⟩ := addV_un hv
      rw [← hre] at h1 h2
      exact ⟨v, he, ⟨v0, h1, RowO.less h2 hN⟩, hg⟩))
    have HRE := Lib.hid hre
    have HG1 := Lib.hid hg1
    clear hre hg1
    apply region_bigQ 5 (PutA w1.heap.size 27 ra rn rl) [.plain, .plain, .plain, .plain, .plain, .plain, .float, .plain, .big] [Is _, AuV a last l, Is _, AddT w1.heap.size ra rn rl re, AddT w1.heap.size ra rn rl re, AddA w1.heap.size ra rn rl, Is (.int .i64 re), NewA w1.heap.size 27, Is undef] [([(2, none)], none), ([(18, some 0)], none), ([(3, none)], none), ([(19, some 1), (20, some 2)], none), ([(21, some 3)], none), ([(17, some 4)], none), ([(17, some 4)], none), ([], none), ([(5, some 7), (22, some 5)], none)] [(5, 7), (17, 4), (19, 1), (21, 3), (22, 5), (18, 0), (20, 2), (23, 6)] rfl (by kernel_rfl) (by kernel_rfl) (by kernel_rfl) (by kernel_rfl) (by kernel_rfl) rfl (show StableB Grew _ _ _ from ⟨(fun _ => Is.stableB _), (fun _ => AuV.stableA), (fun _ => Is.stableB _), (fun _ => AddT.stable (by decide)), (fun _ => AddT.stable (by decide)), (fun _ => AddA.stable (by decide)), (fun _ => Is.stableB _), (fun _ => NewA.stable), (fun h_ => absurd rfl h_), trivial⟩)
    · show PhHoldQ _ _ _ _ _ _ _ _ _ _ _
      refine ⟨fun a_ wx hR hD K hK => ?_, ?_⟩
      · have hG : Grew w1 wx := (Grew.drew _).trans hR
        simp [Deps, Dep, at_, Is] at hD
        have b0 := HB0.out wx (Grew.trans HG1.out hG)
        have e0 := b0.at_ 0
        have e1 := b0.at_ 1
        have e2 := b0.at_ 2
        simp only [List.getElem?_cons_zero, List.getElem?_cons_succ] at e0 e1 e2
        go_simp
        exact hK _ _ (Grew.refl _) rfl
      refine ⟨fun a_ wx hR hD K hK => ?_, ?_⟩
      · have hG : Grew w1 wx := (Grew.drew _).trans hR
        simp [Deps, Dep, at_, Is] at hD
        go_simp
        have hcn := HMI.out wx (Grew.trans HG0.out (Grew.trans HG1.out hG)) hl40
        with_reducible refine hcn.mono ?_
        clear hcn
        rintro e wy ⟨v, rfl, hv, hg⟩
        exact hK _ _ hg hv
      refine ⟨fun a_ wx hR hD K hK => ?_, ?_⟩
      · have hG : Grew w1 wx := (Grew.drew _).trans hR
        simp [Deps, Dep, at_, Is] at hD
        have b0 := HB1.out wx (Grew.trans HG1.out hG)
        have e0 := b0.at_ 0
        have e1 := b0.at_ 1
        have e2 := b0.at_ 2
        have e3 := b0.at_ 3
        have e4 := b0.at_ 4
        simp only [List.getElem?_cons_zero, List.getElem?_cons_succ] at e0 e1 e2 e3 e4
        go_simp
        exact hK _ _ (Grew.refl _) rfl
      refine ⟨fun a_ wx hR hD K hK => ?_, ?_⟩
      · have hG : Grew w1 wx := (Grew.drew _).trans hR
        simp [Deps, Dep, at_, Is] at hD
        obtain ⟨⟨A_, c_, hv_, hc_, hC_⟩, hd1⟩ := hD
        go_simp
        have hcn := HAD2.out wx A_ c_ hC_ hc_ w1.heap.size hG.size
        with_reducible refine hcn.mono ?_
        clear hcn
        rintro e wy ⟨v, rfl, hv, hg⟩
        exact hK _ _ hg hv
      refine ⟨fun a_ wx hR hD K hK => ?_, ?_⟩
      · have hG : Grew w1 wx := (Grew.drew _).trans hR
        simp [Deps, Dep, at_, Is] at hD
        obtain ⟨v0, hv0, hr0⟩ := hD
        go_simp
        exact hK _ _ (Grew.refl _) ⟨v0, rfl, hr0⟩
      refine ⟨fun a_ wx hR hD K hK => ?_, ?_⟩
      · have hG : Grew w1 wx := (Grew.drew _).trans hR
        simp [Deps, Dep, at_, Is] at hD
        obtain ⟨v0, hv0, hr0⟩ := hD
        go_simp
        exact hK _ _ (Grew.refl _) ⟨v0, rfl, hr0⟩
      refine ⟨fun a_ wx hD K hK => ?_, ?_⟩
      · have hF_ := True.intro
        simp [Deps, Dep, at_, Is] at hD
        obtain ⟨v0, hv0, hr0⟩ := hD
        go_simp
        exact hK _ _ rfl rfl
      refine ⟨fun a_ wx hR hD K hK => ?_, ?_⟩
      · have hG : Grew w1 wx := (Grew.drew _).trans hR
        go_simp
        exact hK _ _ (Grew.alloc _ _) ⟨_, _, rfl, hG.size, rfl, Blk.new _ _ [.string ⟨#[]⟩, .int .i64 0, .slice none 0 0]⟩
      refine ⟨⟨rfl, fun a_ wx hR hD K hK => ?_⟩, ?_⟩
      · have hG : Grew w1 wx := (Grew.drew _).trans hR
        simp [Deps, Dep, at_, Is] at hD
        obtain ⟨hd0, hd1⟩ := hD
        obtain ⟨g1, cs, h1, h2, h3, h4⟩ := hd0
        obtain ⟨v0, h5, h6⟩ := hd1
        obtain ⟨A0, c0, h7, -⟩ := RowO.slice h6
        exact wp_store_row 27 (.tmp 5) (.tmp 22) rfl g1 #[.string ra, .int .i64 rn, v0] (eval_tmp h1) (eval_tmp h5) 27 cs.toArray h4 (by kernel_rfl) (by simpa using h3) (by rw [h7]; exact zA_one _ _ _ _ _) (hK _ _ ⟨g1, cs, v0, h1, h2, h3, h4, h6, rfl⟩ rfl)
      trivial
    · show EndHold _ _ _ _ _ _ _
      intro v5
      intro v17
      intro v19
      intro v21
      intro v22
      refine end_all (xs := [_, _, _]) ⟨rfl, rfl, rfl, trivial⟩ ?_
      rintro w2 hR1 ⟨⟨⟨⟨⟨-, hN7⟩, hA4⟩, hM1⟩, hA3⟩, hA5⟩
      refine ⟨?_⟩
      rintro ⟨wm_w2, hRm, hP_w2⟩
      have hG_w2 : Grew w1 wm_w2 := (Grew.drew _).trans hRm
      clear hRm
      simp only [Act.put, List.setIfInBounds_toArray, List.set_cons_succ, List.set_cons_zero, dropN, putEach]
      obtain ⟨g5, cs5, v0, hv5, hN5, h35, hbl5, hro5, rfl⟩ := hP_w2
      have hv5' : v5 = .pointer (some ⟨g5, 0, none⟩) := hv5
      clear hv5 hN7 hA5 hA4 hA3 hM1 hR1
      subst hv5'
      obtain ⟨A6, c6, rfl, hc6⟩ := RowO.slice hro5
      have hb5 := hbl5.setRow [Value.string ra, .int .i64 rn, .slice A6 rl.length c6]
      have hro := RowO.upd (w' := wm_w2.setRow g5 [Value.string ra, .int .i64 rn, .slice A6 rl.length c6].toArray) (S := fun j => j = g5) hro5 (Upd.setRow (S := fun j => j = g5) (Upd.refl _ _) (.inl rfl) _) (fun j hj e => RowO.ne hro5 hbl5 (by decide) (by rw [hj, e]))
      have hg2 := Grew.trans HG1.out (Grew.setRow hG_w2 hN5 [Value.string ra, .int .i64 rn, .slice A6 rl.length c6].toArray)
      obtain ⟨W2, hW2⟩ : ∃ W2, W2 = wm_w2.setRow g5 [Value.string ra, .int .i64 rn, .slice A6 rl.length c6].toArray := ⟨_, rfl⟩
      rw [← hW2] at hb5 hro hg2 ⊢
      have hC6 := rowO_C' hro rfl
      have HG2 := Lib.hid hg2
      clear hro5 hbl5 hW2 hG_w2 hN5 h35 hro hg2
      cases hadd : addP a last l ⟨s, t, k, p, x⟩ with
      | none =>
        have hre := HRE.out
        rw [hadd] at hre
        obtain ⟨rfl, rfl, rfl, rfl⟩ : ra = ⟨#[]⟩ ∧ rn = 0 ∧ rl = [] ∧ re = 1 := by simpa [unA] using hre
        have HB5 := Lib.hid (fun wx (h : Grew W2 wx) => And.intro ((hb5.grew h).at_ 0) (And.intro ((hb5.grew h).at_ 1) ((hb5.grew h).at_ 2)))
        simp only [List.getElem?_cons_zero, List.getElem?_cons_succ, List.length_nil] at HB5 hc6 hC6
        have HMY := Lib.hid (fun wx (h : Grew W2 wx) => may_c ⟨#[]⟩ 0 A6 c6 [] wx (Kd.C_below hC6 h) (Nat.zero_le _))
        rw [show mayP ⟨#[]⟩ 0 [] = false from rfl] at HMY
        simp only [List.length_nil] at HMY
        obtain ⟨e0, e1, e2⟩ := HB5.out W2 (Grew.refl _)
        clear hb5 hre hadd hC6
        go_wp2_with fail
        refine (HMY.out W2 (Grew.refl _)).mono ?_
        rintro e w3 ⟨_, rfl, rfl, hg3⟩
        go_wp2_with fail
        refine (lives_c w3).mono ?_
        rintro e w4 ⟨_, rfl, rfl, hg4⟩
        go_wp2_with fail
        go_ret
        exact ⟨_, rfl, rfl, Grew.trans HG0.out (Grew.trans HG2.out (Grew.trans hg3 hg4))⟩
      | some r =>
        obtain ⟨ra', rl'⟩ := r
        have hre := HRE.out
        rw [hadd] at hre
        obtain ⟨rfl, rfl, rfl, rfl⟩ : ra = ra' ∧ rn = last + 1 ∧ rl = rl' ∧ re = 0 := by simpa [unA] using hre
        have hw := went hadd
        obtain ⟨pr, hpr⟩ := hw.ends
        have hlen := hw.len
        have hdig := hw.dig
        obtain ⟨E, hE⟩ : ∃ E, E = nextE last ⟨s, t, k, p, x⟩ := ⟨_, rfl⟩
        rw [← hE] at hw hpr hdig
        obtain ⟨q, hq⟩ : ∃ q, q = pr.length := ⟨_, rfl⟩
        obtain ⟨n6, hn6⟩ : ∃ n6, n6 = rl.length := ⟨_, rfl⟩
        have hq6 : n6 = q + 1 := by rw [hn6, hpr, List.length_append, hq]; rfl
        have hrd : rl[q]? = some E := by rw [hpr, hq]; simp
        have hmr := mayR hw.may0
        have HMY := Lib.hid (fun wx (h : Grew W2 wx) => may_c ra (last + 1) A6 c6 rl wx (Kd.C_below hC6 h) hc6)
        have HDB := Lib.hid (fun wx (h : Grew W2 wx) => digest_c ra (last + 1) A6 c6 rl wx (Kd.C_below hC6 h) hc6)
        have HFO := Lib.hid (fun wx (h : Grew W2 wx) A1 c1 (h1 : Kd.C k36 wx A1 l.length l) (g1 : l.length ≤ c1) => follows_c a last A1 c1 l ra (last + 1) A6 c6 rl wx h1 g1 (Kd.C_below hC6 h) hc6)
        have HBY := Lib.hid (fun wx => rbytes_c E.f0 E.f1 E.f2 E.f3 E.f4 hw.good wx)
        have HSE := Lib.hid (fun wx => seal_c wx (chainE (bytesOf a) l) (bytesE E) (chainE_bytes (bytesOf_bytes a) l) (bytesE_bytes E) (Nat.le_trans (chainE_len (by rw [bytesOf_length, hmr.sz]; omega) l) (by omega)) (Nat.le_trans (bytesE_len hw.good) (by omega)))
        rw [hw.may] at HMY
        rw [hw.fol] at HFO
        rw [hdig.1] at HDB
        rw [hdig.2] at HDG
        have hC6q := fun wx (h : Grew W2 wx) => Kd.C_below hC6 h
        have HB5 := Lib.hid (fun wx (h : Grew W2 wx) => And.intro ((hb5.grew h).at_ 0) (And.intro ((hb5.grew h).at_ 1) ((hb5.grew h).at_ 2)))
        simp only [List.getElem?_cons_zero, List.getElem?_cons_succ] at HB5
        rw [show (⟨E.f0, E.f1, E.f2, E.f3, E.f4⟩ : En) = E from rfl] at HBY
        obtain ⟨D1, hD1⟩ : ∃ D, D = strOfNums (chainE (bytesOf a) l) := ⟨_, rfl⟩
        obtain ⟨D2, hD2⟩ : ∃ D, D = strOfNums (sealL (chainE (bytesOf a) l) (bytesE E)) := ⟨_, rfl⟩
        obtain ⟨D3, hD3⟩ : ∃ D, D = strOfNums (bytesE E) := ⟨_, rfl⟩
        rw [← hD1] at HDG HSE
        rw [← hD2] at HDB HSE
        rw [← hD3] at HBY HSE
        rw [← hn6] at HMY HDB HFO HB5 hC6q
        have HCQ := Lib.hid hC6q
        have n8 : n6 ≤ 8 := by omega
        have HRD := Lib.hid hrd
        have hq1 : IntKind.i64.wrap ((n6 : Int) - 1) = (q : Int) := by rw [IntWalk.i64_in _ (by omega)]; omega
        have hq2 : (n6 : Int) - 1 = (q : Int) := by omega
        have i1 : (q : Int) < (n6 : Int) := by omega
        have i2 : q < n6 := by omega
        have hq3 : IntKind.i64.wrap (q : Int) = (q : Int) := IntWalk.i64_in _ (by omega)
        have z1 : decide ((n6 : Int) = 0) = false := decide_eq_false (by omega)
        have z2 : ((n6 : Int) == 0) = false := by simp; omega
        have z3 : ¬ n6 = 0 := by omega
        have HQ3 := Lib.hid (And.intro hq1 (And.intro hq2 hq3))
        obtain ⟨ad, hA6, b0, b1, b2, b3, b4⟩ := at_T36 (hC6q W2 (Grew.refl _)) (q : Int) (by omega) i1
        subst hA6
        have hrdE : rd_T36 rl (q : Int) = E := by
          have h1 := rd_getE (l := rl) (i := q) (by rw [← hn6]; exact i2)
          rw [hrd] at h1
          exact (Option.some.inj h1).symm
        rw [Int.toNat_natCast, hrdE] at b0 b1 b2 b3 b4
        have HBC := Lib.hid (fun wx (h : Grew W2 wx) => And.intro (pw_cell_below h b0) (And.intro (pw_cell_below h b1) (And.intro (pw_cell_below h b2) (And.intro (pw_cell_below h b3) (pw_cell_below h b4)))))
        obtain ⟨e0, e1, e2⟩ := HB5.out W2 (Grew.refl _)
        clear hb5 hre hadd hC6 hC6q hw hpr hlen hdig hE hq hn6 hq6 hrd hmr hD1 hD2 hD3 b0 b1 b2 b3 b4 hrdE hq1 hq2 hq3
        go_wp2_with fail
        clear e0 e1 e2 z1 z2 z3
        have hq1 := HQ3.out.1
        have hq2 := HQ3.out.2.1
        have hq3 := HQ3.out.2.2
        apply region_grew [Is _, Is _, Is _, Is _, Is _, Is _, AuV a last l, Is _, Is _, Is _, Is _, Is _, Is _, Is _, Is _, Is _, Is _, Is _, Is _, Is _, Is _, Is _, AuV a last l, Is _] [([(5, none)], none), ([(36, some 0)], none), ([(37, some 1)], none), ([(5, none), (38, some 2)], some (38, true)), ([(39, some 3), (38, some 2)], some (38, true)), ([(2, none), (38, some 2)], some (38, true)), ([(41, some 5), (38, some 2)], some (38, true)), ([(42, some 6), (38, some 2)], some (38, true)), ([(5, none), (38, some 2)], some (38, true)), ([(44, some 8), (38, some 2)], some (38, true)), ([(5, none), (38, some 2)], some (38, true)), ([(46, some 10), (38, some 2)], some (38, true)), ([(47, some 11), (38, some 2)], some (38, true)), ([(48, some 12), (38, some 2)], some (38, true)), ([(45, some 9), (49, some 13), (38, some 2)], some (38, true)), ([(50, some 14), (38, some 2)], some (38, true)), ([(51, some 15), (38, some 2)], some (38, true)), ([(43, some 7), (52, some 16), (38, some 2)], some (38, true)), ([(40, some 4), (53, some 17), (38, some 2)], some (38, true)), ([(38, some 2), (54, some 18)], none), ([(55, some 19)], none), ([(2, none), (56, some 20)], some (56, true)), ([(57, some 21), (56, some 20)], some (56, true)), ([(5, none), (56, some 20)], some (56, true))] [(42, 6), (58, 22), (36, 0), (37, 1), (38, 2), (39, 3), (40, 4), (41, 5), (43, 7), (44, 8), (45, 9), (46, 10), (47, 11), (48, 12), (49, 13), (50, 14), (51, 15), (52, 16), (53, 17), (54, 18), (55, 19), (56, 20), (57, 21), (59, 23)] rfl (by kernel_rfl) (by kernel_rfl) (show Stable Grew _ from ⟨Is.stable _, Is.stable _, Is.stable _, Is.stable _, Is.stable _, Is.stable _, AuV.stable _ _ _, Is.stable _, Is.stable _, Is.stable _, Is.stable _, Is.stable _, Is.stable _, Is.stable _, Is.stable _, Is.stable _, Is.stable _, Is.stable _, Is.stable _, Is.stable _, Is.stable _, Is.stable _, AuV.stable _ _ _, Is.stable _, trivial⟩)
        · show OpsHold _ _ _ _ _ _ _ _ _
          refine ⟨fun a_ wx hR hD K hK => ?_, ?_⟩
          · have hG : Grew W2 wx := (Grew.drew _).trans hR
            simp [Deps, Dep, at_, Is] at hD
            obtain ⟨e0, e1, e2⟩ := HB5.out wx hG
            go_simp
            exact hK _ _ (Grew.refl _) rfl
          refine ⟨fun a_ wx hR hD K hK => ?_, ?_⟩
          · have hG : Grew W2 wx := (Grew.drew _).trans hR
            simp [Deps, Dep, at_, Is] at hD
            go_simp
            have hcn := HMY.out wx hG
            with_reducible refine hcn.mono ?_
            clear hcn
            rintro e wy ⟨v, rfl, hv, hg⟩
            exact hK _ _ hg hv
          refine ⟨fun a_ wx hR hD K hK => ?_, ?_⟩
          · have hG : Grew W2 wx := (Grew.drew _).trans hR
            simp [Deps, Dep, at_, Is] at hD
            go_simp
            exact hK _ _ (Grew.refl _) rfl
          refine ⟨fun a_ wx hR hD => ⟨fun hgd K hK => ?_, fun hgd => ?_⟩, ?_⟩
          · have hG : Grew W2 wx := (Grew.drew _).trans hR
            clear hgd
            simp [Deps, Dep, at_, Is] at hD
            obtain ⟨hd0, hd1⟩ := hD
            obtain ⟨e0, e1, e2⟩ := HB5.out wx hG
            go_simp
            exact hK _ _ (Grew.refl _) rfl
          · have hG : Grew W2 wx := (Grew.drew _).trans hR
            exfalso
            simp [Deps, Dep, at_, Is] at hD
            simp_all
          refine ⟨fun a_ wx hR hD => ⟨fun hgd K hK => ?_, fun hgd => ?_⟩, ?_⟩
          · have hG : Grew W2 wx := (Grew.drew _).trans hR
            clear hgd
            simp [Deps, Dep, at_, Is] at hD
            obtain ⟨hd0, hd1⟩ := hD
            go_simp
            have hcn := HDB.out wx hG
            with_reducible refine hcn.mono ?_
            clear hcn
            rintro e wy ⟨v, rfl, hv, hg⟩
            exact hK _ _ hg hv
          · have hG : Grew W2 wx := (Grew.drew _).trans hR
            exfalso
            simp [Deps, Dep, at_, Is] at hD
            simp_all
          refine ⟨fun a_ wx hR hD => ⟨fun hgd K hK => ?_, fun hgd => ?_⟩, ?_⟩
          · have hG : Grew W2 wx := (Grew.drew _).trans hR
            clear hgd
            simp [Deps, Dep, at_, Is] at hD
            obtain ⟨hd0, hd1⟩ := hD
            have b0 := HB0.out wx (Grew.trans HG2.out hG)
            have e0 := b0.at_ 0
            have e1 := b0.at_ 1
            have e2 := b0.at_ 2
            simp only [List.getElem?_cons_zero, List.getElem?_cons_succ] at e0 e1 e2
            go_simp
            exact hK _ _ (Grew.refl _) rfl
          · have hG : Grew W2 wx := (Grew.drew _).trans hR
            exfalso
            simp [Deps, Dep, at_, Is] at hD
            simp_all
          refine ⟨fun a_ wx hR hD => ⟨fun hgd K hK => ?_, fun hgd => ?_⟩, ?_⟩
          · have hG : Grew W2 wx := (Grew.drew _).trans hR
            clear hgd
            simp [Deps, Dep, at_, Is] at hD
            obtain ⟨hd0, hd1⟩ := hD
            go_simp
            have hcn := HMI.out wx (Grew.trans HG0.out (Grew.trans HG2.out hG)) hl40
            with_reducible refine hcn.mono ?_
            clear hcn
            rintro e wy ⟨v, rfl, hv, hg⟩
            exact hK _ _ hg hv
          · have hG : Grew W2 wx := (Grew.drew _).trans hR
            exfalso
            simp [Deps, Dep, at_, Is] at hD
            simp_all
          refine ⟨fun a_ wx hR hD => ⟨fun hgd K hK => ?_, fun hgd => ?_⟩, ?_⟩
          · have hG : Grew W2 wx := (Grew.drew _).trans hR
            clear hgd
            simp [Deps, Dep, at_, Is] at hD
            obtain ⟨⟨A_, c_, hv_, hc_, hC_⟩, hgd_⟩ := hD
            go_simp
            have hcn := HDG.out wx A_ c_ hC_ hc_
            with_reducible refine hcn.mono ?_
            clear hcn
            rintro e wy ⟨v, rfl, hv, hg⟩
            exact hK _ _ hg hv
          · have hG : Grew W2 wx := (Grew.drew _).trans hR
            exfalso
            simp [Deps, Dep, at_, Is] at hD
            simp_all
          refine ⟨fun a_ wx hR hD => ⟨fun hgd K hK => ?_, fun hgd => ?_⟩, ?_⟩
          · have hG : Grew W2 wx := (Grew.drew _).trans hR
            clear hgd
            simp [Deps, Dep, at_, Is] at hD
            obtain ⟨hd0, hd1⟩ := hD
            go_simp
            exact hK _ _ (Grew.refl _) rfl
          · have hG : Grew W2 wx := (Grew.drew _).trans hR
            exfalso
            simp [Deps, Dep, at_, Is] at hD
            simp_all
          refine ⟨fun a_ wx hR hD => ⟨fun hgd K hK => ?_, fun hgd => ?_⟩, ?_⟩
          · have hG : Grew W2 wx := (Grew.drew _).trans hR
            clear hgd
            simp [Deps, Dep, at_, Is] at hD
            obtain ⟨hd0, hd1⟩ := hD
            obtain ⟨e0, e1, e2⟩ := HB5.out wx hG
            go_simp
            exact hK _ _ (Grew.refl _) rfl
          · have hG : Grew W2 wx := (Grew.drew _).trans hR
            exfalso
            simp [Deps, Dep, at_, Is] at hD
            simp_all
          refine ⟨fun a_ wx hR hD => ⟨fun hgd K hK => ?_, fun hgd => ?_⟩, ?_⟩
          · have hG : Grew W2 wx := (Grew.drew _).trans hR
            clear hgd
            simp [Deps, Dep, at_, Is] at hD
            obtain ⟨hd0, hd1⟩ := hD
            go_simp
            exact hK _ _ (Grew.refl _) rfl
          · have hG : Grew W2 wx := (Grew.drew _).trans hR
            exfalso
            simp [Deps, Dep, at_, Is] at hD
            simp_all
          refine ⟨fun a_ wx hR hD => ⟨fun hgd K hK => ?_, fun hgd => ?_⟩, ?_⟩
          · have hG : Grew W2 wx := (Grew.drew _).trans hR
            clear hgd
            simp [Deps, Dep, at_, Is] at hD
            obtain ⟨hd0, hd1⟩ := hD
            obtain ⟨e0, e1, e2⟩ := HB5.out wx hG
            go_simp
            exact hK _ _ (Grew.refl _) rfl
          · have hG : Grew W2 wx := (Grew.drew _).trans hR
            exfalso
            simp [Deps, Dep, at_, Is] at hD
            simp_all
          refine ⟨fun a_ wx hR hD => ⟨fun hgd K hK => ?_, fun hgd => ?_⟩, ?_⟩
          · have hG : Grew W2 wx := (Grew.drew _).trans hR
            clear hgd
            simp [Deps, Dep, at_, Is] at hD
            obtain ⟨hd0, hd1⟩ := hD
            go_simp
            exact hK _ _ (Grew.refl _) rfl
          · have hG : Grew W2 wx := (Grew.drew _).trans hR
            exfalso
            simp [Deps, Dep, at_, Is] at hD
            simp_all
          refine ⟨fun a_ wx hR hD => ⟨fun hgd K hK => ?_, fun hgd => ?_⟩, ?_⟩
          · have hG : Grew W2 wx := (Grew.drew _).trans hR
            clear hgd
            simp [Deps, Dep, at_, Is] at hD
            obtain ⟨hd0, hd1⟩ := hD
            go_simp
            exact hK _ _ (Grew.refl _) rfl
          · have hG : Grew W2 wx := (Grew.drew _).trans hR
            exfalso
            simp [Deps, Dep, at_, Is] at hD
            simp_all
          refine ⟨fun a_ wx hR hD => ⟨fun hgd K hK => ?_, fun hgd => ?_⟩, ?_⟩
          · have hG : Grew W2 wx := (Grew.drew _).trans hR
            clear hgd
            simp [Deps, Dep, at_, Is] at hD
            obtain ⟨hd0, hd1, hd2⟩ := hD
            go_simp
            exact hK _ _ (Grew.refl _) rfl
          · have hG : Grew W2 wx := (Grew.drew _).trans hR
            exfalso
            simp [Deps, Dep, at_, Is] at hD
            simp_all
          refine ⟨fun a_ wx hR hD => ⟨fun hgd K hK => ?_, fun hgd => ?_⟩, ?_⟩
          · have hG : Grew W2 wx := (Grew.drew _).trans hR
            clear hgd
            simp [Deps, Dep, at_, Is] at hD
            obtain ⟨hd0, hd1⟩ := hD
            obtain ⟨e0, e1, e2, e3, e4⟩ := HBC.out wx hG
            go_simp
            exact hK _ _ (Grew.refl _) rfl
          · have hG : Grew W2 wx := (Grew.drew _).trans hR
            exfalso
            simp [Deps, Dep, at_, Is] at hD
            simp_all
          refine ⟨fun a_ wx hR hD => ⟨fun hgd K hK => ?_, fun hgd => ?_⟩, ?_⟩
          · have hG : Grew W2 wx := (Grew.drew _).trans hR
            clear hgd
            simp [Deps, Dep, at_, Is] at hD
            obtain ⟨hd0, hd1⟩ := hD
            go_simp
            have hcn := HBY.out wx
            with_reducible refine hcn.mono ?_
            clear hcn
            rintro e wy ⟨v, rfl, hv, hg⟩
            exact hK _ _ hg hv
          · have hG : Grew W2 wx := (Grew.drew _).trans hR
            exfalso
            simp [Deps, Dep, at_, Is] at hD
            simp_all
          refine ⟨fun a_ wx hR hD => ⟨fun hgd K hK => ?_, fun hgd => ?_⟩, ?_⟩
          · have hG : Grew W2 wx := (Grew.drew _).trans hR
            clear hgd
            simp [Deps, Dep, at_, Is] at hD
            obtain ⟨hd0, hd1, hd2⟩ := hD
            go_simp
            have hcn := HSE.out wx
            with_reducible refine hcn.mono ?_
            clear hcn
            rintro e wy ⟨v, rfl, hv, hg⟩
            exact hK _ _ hg hv
          · have hG : Grew W2 wx := (Grew.drew _).trans hR
            exfalso
            simp [Deps, Dep, at_, Is] at hD
            simp_all
          refine ⟨fun a_ wx hR hD => ⟨fun hgd K hK => ?_, fun hgd => ?_⟩, ?_⟩
          · have hG : Grew W2 wx := (Grew.drew _).trans hR
            clear hgd
            simp [Deps, Dep, at_, Is] at hD
            obtain ⟨hd0, hd1, hd2⟩ := hD
            go_simp
            exact hK _ _ (Grew.refl _) rfl
          · have hG : Grew W2 wx := (Grew.drew _).trans hR
            exfalso
            simp [Deps, Dep, at_, Is] at hD
            simp_all
          refine ⟨fun a_ wx hR hD K hK => ?_, ?_⟩
          · have hG : Grew W2 wx := (Grew.drew _).trans hR
            simp [Deps, Dep, at_, Is] at hD
            obtain ⟨hd0, hd1⟩ := hD
            go_simp
            exact hK _ _ (Grew.refl _) rfl
          refine ⟨fun a_ wx hR hD K hK => ?_, ?_⟩
          · have hG : Grew W2 wx := (Grew.drew _).trans hR
            simp [Deps, Dep, at_, Is] at hD
            go_simp
            exact hK _ _ (Grew.refl _) rfl
          refine ⟨fun a_ wx hR hD => ⟨fun hgd K hK => ?_, fun hgd => ?_⟩, ?_⟩
          · have hG : Grew W2 wx := (Grew.drew _).trans hR
            clear hgd
            simp [Deps, Dep, at_, Is] at hD
            obtain ⟨hd0, hd1⟩ := hD
            have b0 := HB0.out wx (Grew.trans HG2.out hG)
            have e0 := b0.at_ 0
            have e1 := b0.at_ 1
            have e2 := b0.at_ 2
            simp only [List.getElem?_cons_zero, List.getElem?_cons_succ] at e0 e1 e2
            go_simp
            exact hK _ _ (Grew.refl _) rfl
          · have hG : Grew W2 wx := (Grew.drew _).trans hR
            exfalso
            simp [Deps, Dep, at_, Is] at hD
            simp_all
          refine ⟨fun a_ wx hR hD => ⟨fun hgd K hK => ?_, fun hgd => ?_⟩, ?_⟩
          · have hG : Grew W2 wx := (Grew.drew _).trans hR
            clear hgd
            simp [Deps, Dep, at_, Is] at hD
            obtain ⟨hd0, hd1⟩ := hD
            go_simp
            have hcn := HMI.out wx (Grew.trans HG0.out (Grew.trans HG2.out hG)) hl40
            with_reducible refine hcn.mono ?_
            clear hcn
            rintro e wy ⟨v, rfl, hv, hg⟩
            exact hK _ _ hg hv
          · have hG : Grew W2 wx := (Grew.drew _).trans hR
            exfalso
            simp [Deps, Dep, at_, Is] at hD
            simp_all
          refine ⟨fun a_ wx hR hD => ⟨fun hgd K hK => ?_, fun hgd => ?_⟩, ?_⟩
          · have hG : Grew W2 wx := (Grew.drew _).trans hR
            clear hgd
            simp [Deps, Dep, at_, Is] at hD
            obtain ⟨hd0, hd1⟩ := hD
            obtain ⟨e0, e1, e2⟩ := HB5.out wx hG
            go_simp
            exact hK _ _ (Grew.refl _) rfl
          · have hG : Grew W2 wx := (Grew.drew _).trans hR
            exfalso
            simp [Deps, Dep, at_, Is] at hD
            simp_all
          trivial
        · show EndHold _ _ _ _ _ _ _
          intro v42
          intro v58
          refine end_all (xs := [_, _, _, _, _, _, _, _, _, _, _, _, _, _, _, _, _, _, _, _, _, _]) ⟨rfl, rfl, rfl, rfl, rfl, rfl, rfl, rfl, rfl, rfl, rfl, rfl, rfl, rfl, rfl, rfl, rfl, rfl, rfl, rfl, rfl, rfl, trivial⟩ ?_
          rintro w5 hR1 ⟨⟨-, hM6⟩, hM22⟩
          refine ⟨?_⟩
          have hG_w5 : Grew W2 w5 := (Grew.drew _).trans hR1
          clear hR1
          simp only [Act.put, List.setIfInBounds_toArray, List.set_cons_succ, List.set_cons_zero, dropN, putEach]
          obtain ⟨A9, c9, rfl, hc9, hC9⟩ := hM22
          have HF9 := Lib.hid (HFO.out w5 hG_w5 A9 c9 hC9 hc9)
          clear hC9 hc9
          go_wp2_with fail
          refine HF9.out.mono ?_
          rintro e w7 ⟨_, rfl, rfl, hg7⟩
          go_wp2_with fail
          refine (lives_c w7).mono ?_
          rintro e w6 ⟨_, rfl, rfl, hg6⟩
          go_wp2_with fail
          go_ret
          exact ⟨_, rfl, rfl, Grew.trans HG0.out (Grew.trans HG2.out (Grew.trans (Grew.trans hG_w5 hg7) hg6))⟩
  · cases sb with
    | false =>
      go_wp2_with fail
      refine (lives_c w1).mono ?_
      rintro e w2 ⟨_, rfl, rfl, hg2⟩
      go_wp2_with fail
      go_ret
      exact ⟨_, rfl, rfl, Grew.trans (Grew.trans HG0.out hg1) hg2⟩
    | true =>
      have hp1 : 1000 < ps := by
        rcases Nat.lt_or_ge 1000 ps with h | h
        · exact h
        · exact absurd ⟨rfl, h⟩ hgo
      have d1 : decide (1000 < ps) = true := decide_eq_true hp1
      have d1' : decide (1000 < (ps : Int)) = true := decide_eq_true (by omega)
      clear hgo
      go_wp2_with fail
      refine (lives_c w1).mono ?_
      rintro e w2 ⟨_, rfl, rfl, hg2⟩
      go_wp2_with fail
      go_ret
      exact ⟨_, rfl, rfl, Grew.trans (Grew.trans HG0.out hg1) hg2⟩
end Go.Proofs.Ytmifoihfpjomaaa.F

-- WSized
-- PRINTED BY print.sh 35421559b90ae4d0a3588c463048766b98c2df88dd9212a6774a882060cdf62d: not written by this session
-- PRINTED WORDS (module Derived/Print/Sized.lean): go-gate-2's, for the rows of laws over slices: an AI agent of Go's test side, Tue Nov 17 2026; no person has read it. Lean checks it.
namespace Go.Proofs.YtmifoihfpjomaaaW.PrintWords
open Go.ChangeShapes Go.WideShapes
/-- A row's slice of whole numbers is no longer than its weight allows. -/
theorem sized_ints {H : Type} {enc : TypeId × Value → H} {P : Program} {W : World} {base : Nat} {spare : Nat → Bool} {held : Bool} {t e : TypeId} {k : IntKind} {a : Option Addr} {len cap : Nat} {d : DataW H} {ps : List MemPlace} {ts : List TypeId} {ds : List (DataW H)} {j : Nat}
    (hsz : (DataW.weightsEach P ts ds).all (· ≤ reachBytes) = true) (ht : ts[j]? = some t) (hd : ds[j]? = some d) (hu : P.underlying t = some (.slice e)) (he : P.underlying e = some (.int k)) (hc : P.cellsOf e = 1) {B : Nat} (hB : P.bytesOf e = B)
    (h : DataW.Trod enc P W base spare held t (.slice a len cap) d ps) : len * B ≤ 140737488351232 := by
  obtain ⟨fuel, hf⟩ := h
  rcases open_ints hu he hc hf with ⟨hcs, _⟩ | ⟨x, l, c, zs, hcs, _, hl, _, hz, hx, _, _⟩
  · simp [Value.cells] at hcs
    obtain ⟨rfl, rfl, rfl⟩ := hcs
    simp
  · simp [Value.cells] at hcs
    obtain ⟨rfl, rfl, rfl⟩ := hcs
    obtain ⟨hx, _⟩ := Prod.mk.inj hx
    subst hx
    have z := sized_slice hsz ht hd hu
    rw [hB] at z
    have hl2 : len ≤ zs.length := by
      rw [hz]
      split
      · exact hl
      · exact Nat.le_refl _
    have h1 : (lits (H := H) k (zs.take len)).length + (lits (H := H) k (zs.drop len)).length = zs.length := by
      simp [lits]
      omega
    rw [h1] at z
    exact Nat.le_trans (Nat.mul_le_mul_right _ hl2) z
end Go.Proofs.YtmifoihfpjomaaaW.PrintWords

-- Open
namespace Go.Proofs.YtmifoihfpjomaaaO
set_option linter.unusedSimpArgs false
open Go Go.RowKit Go.ChangeShapes Go.WideShapes Go.ChangeAt Go.Proofs.YtmifoihfpjomaaaW.PrintWords
/-- cells of type t that can be read as data are some x of kind d -/
def Opens {α : Type} (P : Program) (t : TypeId) (d : Kd α) (ok : α → Prop) : Prop :=
  ∀ (H : Type) (enc : TypeId × Value → H) (W : World) (sp : Nat → Bool) (held : Bool) (fuel : Nat) (cs : List Value) (y : DataW H × List MemPlace), DataW.trod enc P W 0 sp held fuel t cs = some y → ∃ x, d.K W x cs ∧ ok x
section
variable {P : Program} {α : Type}
theorem opens_int {t : TypeId} {k : IntKind} (hu : P.underlying t = some (.int k)) : Opens P t (Kd.int k) (fun x => (Lit.int k x).wf = true) := by
  intro H enc W sp held fuel cs y h
  cases fuel with
  | zero => simp [DataW.trod] at h
  | succ n =>
    have key : ∃ n', cs = [.int k n'] ∧ (Lit.int k n').wf = true := by
      simp only [DataW.trod, hu] at h
      split at h <;> simp_all
    obtain ⟨x, rfl, hx⟩ := key
    exact ⟨x, rfl, hx⟩
theorem opens_bool {t : TypeId} (hu : P.underlying t = some .bool) : Opens P t Kd.bool (fun _ => True) := by
  intro H enc W sp held fuel cs y h
  cases fuel with
  | zero => simp [DataW.trod] at h
  | succ n =>
    have key : ∃ b, cs = [.bool b] := by
      simp only [DataW.trod, hu] at h
      split at h <;> simp_all
    obtain ⟨x, rfl⟩ := key
    exact ⟨x, rfl, trivial⟩
theorem opens_string {t : TypeId} (hu : P.underlying t = some .string) : Opens P t Kd.string (fun s => s.size ≤ maxLen) := by
  intro H enc W sp held fuel cs y h
  cases fuel with
  | zero => simp [DataW.trod] at h
  | succ n =>
    simp only [DataW.trod, hu] at h
    split at h <;> simp_all
    exact ⟨_, rfl, h.1⟩
theorem mapM_get {β γ : Type} {f : β → Option γ} : ∀ {l : List β} {ys : List γ}, l.mapM f = some ys → ys.length = l.length ∧ ∀ (i : Nat) (x : β), l[i]? = some x → ∃ y, f x = some y
  | [], ys, h => by simp at h; subst h; simp
  | a :: l, ys, h => by
    simp only [List.mapM_cons] at h
    obtain ⟨b, hb, h⟩ := Option.bind_eq_some_iff.1 h
    obtain ⟨bs, hbs, h⟩ := Option.bind_eq_some_iff.1 h
    simp at h
    subst h
    have ih := mapM_get hbs
    refine ⟨by simp [ih.1], fun i x hx => ?_⟩
    cases i with
    | zero => simp at hx; subst hx; exact ⟨b, hb⟩
    | succ i => simp at hx; exact ih.2 i x hx
theorem choose_list {ok : α → Prop} {Q : Nat → α → Prop} : ∀ n : Nat, (∀ i, i < n → ∃ x, Q i x ∧ ok x) → ∃ xs : List α, xs.length = n ∧ (∀ (i : Nat) (x : α), xs[i]? = some x → Q i x) ∧ ∀ x ∈ xs, ok x
  | 0, _ => ⟨[], rfl, by simp, by simp⟩
  | n + 1, h => by
    obtain ⟨xs, h1, h2, h3⟩ := choose_list n (fun i hi => h i (by omega))
    obtain ⟨x, hx, hk⟩ := h n (by omega)
    refine ⟨xs ++ [x], by simp [h1], fun i y hy => ?_, fun y hy => ?_⟩
    · rcases Nat.lt_or_ge i n with hlt | hge
      · rw [List.getElem?_append_left (by omega)] at hy; exact h2 i y hy
      · rw [List.getElem?_append_right (by omega)] at hy
        have : i = n := by
          rcases Nat.lt_or_ge n i with h' | h'
          · rw [List.getElem?_eq_none (by simp; omega)] at hy; cases hy
          · omega
        subst this
        simp [h1] at hy
        subst hy; exact hx
    · rcases List.mem_append.1 hy with hy | hy
      · exact h3 y hy
      · simp at hy; subst hy; exact hk
theorem cells_get {W : World} {a : Addr} {n : Nat} {cs : List Value} (h : W.cells? 0 a n = some cs) : cs.length = n ∧ ∀ (i : Nat) (u : Value), cs[i]? = some u → W.cell? (a.add i) = some u := by
  unfold World.cells? at h
  rw [if_pos (Nat.zero_le _)] at h
  have h1 := mapM_get h
  refine ⟨by simpa using h1.1, fun i u hu => ?_⟩
  have hi : i < n := by
    have := (List.getElem?_eq_some_iff.1 hu).1
    rw [h1.1] at this; simpa using this
  obtain ⟨y, hy⟩ := h1.2 i i (by simp [hi])
  have key : ∀ (l : List Nat) (ys : List Value), l.mapM (fun i => W.cell? (a.add i)) = some ys → ∀ (j : Nat), ys[j]? = (l[j]?).bind fun i => W.cell? (a.add i) := by
    intro l
    induction l with
    | nil => intro ys h j; simp at h; subst h; simp
    | cons b l ih =>
      intro ys h j
      simp only [List.mapM_cons] at h
      obtain ⟨c, hc, h⟩ := Option.bind_eq_some_iff.1 h
      obtain ⟨cs', hcs, h⟩ := Option.bind_eq_some_iff.1 h
      simp at h; subst h
      cases j with
      | zero => simp [hc]
      | succ j => simpa using ih cs' hcs j
  have := key _ _ h i
  rw [hu] at this
  simp [hi] at this
  exact this.symm
theorem opens_slice {t e : TypeId} {d : Kd α} {ok : α → Prop} (hu : P.underlying t = some (.slice e)) (he : Opens P e d ok) (hc : P.cellsOf e = d.sz) : Opens P t (Kd.slice e d) (fun xs => ∀ x ∈ xs, ok x) := by
  intro H enc W sp held fuel cs y h
  cases fuel with
  | zero => simp [DataW.trod] at h
  | succ n =>
    have key : cs = [.slice none 0 0] ∨ ∃ a len cap, cs = [.slice (some a) len cap] ∧ len ≤ cap ∧ cap ≤ maxLen ∧ ∃ elems, (List.range len).mapM (fun i => (W.cells? 0 (a.add (i * P.cellsOf e)) (P.cellsOf e)).bind (DataW.trod enc P W 0 sp held n e)) = some elems := by
      simp only [DataW.trod, hu] at h
      split at h <;> try (simp_all; done)
      rename_i e' a len cap heq
      simp only [Option.some.injEq, TypeDesc.slice.injEq] at heq
      subst heq
      split at h
      · rename_i hb
        obtain ⟨elems, he1, _⟩ := Option.bind_eq_some_iff.1 h
        exact .inr ⟨a, len, cap, rfl, hb.2.1, hb.2.2, elems, he1⟩
      · cases h
    rcases key with rfl | ⟨a, len, cap, rfl, h1, h2, elems, he1⟩
    · exact ⟨[], ⟨none, 0, rfl, by simp, by simp [Kd.C, ReadsRow]⟩, by simp⟩
    · rw [hc] at he1
      have hm := mapM_get he1
      obtain ⟨xs, x1, x2, x3⟩ := choose_list (ok := ok) (Q := fun i x => ∃ c, W.cells? 0 (a.add (i * d.sz)) d.sz = some c ∧ d.K W x c) len (fun i hi => by
        obtain ⟨z, hz⟩ := hm.2 i i (by simp [hi])
        obtain ⟨c, hc1, hc2⟩ := Option.bind_eq_some_iff.1 hz
        obtain ⟨x, hx, hk⟩ := he H enc W sp held n c z hc2
        exact ⟨x, ⟨c, hc1, hx⟩, hk⟩)
      refine ⟨xs, ⟨some a, cap, by rw [x1], by omega, ?_⟩, x3⟩
      refine ⟨rfl, by have : maxLen = 9223372036854775807 := rfl; omega, fun _ => ⟨a, rfl, fun j p hp => ?_⟩⟩
      obtain ⟨c, hc1, hk⟩ := x2 j p hp
      have hg := cells_get hc1
      refine ⟨c, hg.1, hk, fun i u hiu => ?_⟩
      have := hg.2 i u hiu
      rw [← this]
      congr 1
      unfold Addr.add
      by_cases z1 : j * d.sz = 0
      · rw [if_pos z1]
        by_cases z2 : i = 0
        · simp [z1, z2]
        · rw [if_neg (by omega), if_neg z2]; simp [z1]
      · rw [if_neg z1, if_neg (by omega)]
        by_cases z2 : i = 0
        · simp [z2]
        · rw [if_neg z2]; simp [Nat.add_assoc]
theorem opens_array {t e n : Nat} {d : Kd α} {ok : α → Prop} (hs : 0 < d.sz) (hu : P.underlying t = some (.array n e)) (he : Opens P e d ok) (hc : P.cellsOf e = d.sz) (ht : P.cellsOf t = n * d.sz) : Opens P t (Kd.arr n d hs) (fun xs => ∀ x ∈ xs, ok x) := by
  intro H enc W sp held fuel cs y h
  cases fuel with
  | zero => simp [DataW.trod] at h
  | succ m =>
    simp only [DataW.trod, hu] at h
    split at h
    · rename_i hl
      obtain ⟨ys, hy, _⟩ := Option.map_eq_some_iff.1 h
      have hm := mapM_get hy
      obtain ⟨xs, x1, x2, x3⟩ := choose_list (ok := ok) (Q := fun i x => d.K W x ((cs.drop (i * d.sz)).take d.sz)) n (fun i hi => by
        obtain ⟨z, hz⟩ := hm.2 i i (by simp [hi])
        rw [hc] at hz
        exact he H enc W sp held m _ z hz)
      exact ⟨xs, ⟨x1, by rw [x1, hl, ht], x2⟩, x3⟩
    · cases h
/-- an argument of a kind -/
theorem opens_arg {t : TypeId} {d : Kd α} {ok : α → Prop} (ho : Opens P t d ok) {H : Type} {enc : TypeId × Value → H} {W : World} {sp : Nat → Bool} {held : Bool} {v : Value} {y : DataW H} {ps : List MemPlace} (h : DataW.Trod enc P W 0 sp held t v y ps) : ∃ x, d.K W x v.cells.toList ∧ ok x := by
  obtain ⟨fuel, hf⟩ := h
  exact ho H enc W sp held fuel _ _ hf
theorem okWide_array {t n e : Nat} {r : Reach} {b0 : Nat} {v : Value} {W : World} (hu : P.underlying t = some (.array n e)) (h : Value.okWide P W r b0 t v) : ∃ cs, v = .agg cs ∧ cs.size = P.cellsOf t := by
  simp only [Value.okWide, hu] at h
  obtain ⟨cs, h1, h2, _⟩ := h
  exact ⟨cs, h1, h2⟩
theorem arr2 {d : Kd α} {hs : 0 < d.sz} (h1 : d.sz = 1) {W : World} {x : List α} {cs : Array Value} (h : (Kd.arr 2 d hs).K W x cs.toList) : ∃ a b c0 c1, x = [a, b] ∧ cs = #[c0, c1] ∧ d.K W a [c0] ∧ d.K W b [c1] := by
  obtain ⟨hl, hc, hr⟩ := h
  rw [hl, h1] at hc
  obtain ⟨l⟩ := cs
  match x, hl, l, hc, hr with
  | [a, b], _, [c0, c1], _, hr => exact ⟨a, b, c0, c1, rfl, rfl, by have := hr 0 a rfl; rw [h1] at this; exact this, by have := hr 1 b rfl; rw [h1] at this; exact this⟩
theorem arr3 {d : Kd α} {hs : 0 < d.sz} (h1 : d.sz = 1) {W : World} {x : List α} {cs : Array Value} (h : (Kd.arr 3 d hs).K W x cs.toList) : ∃ a b c c0 c1 c2, x = [a, b, c] ∧ cs = #[c0, c1, c2] ∧ d.K W a [c0] ∧ d.K W b [c1] ∧ d.K W c [c2] := by
  obtain ⟨hl, hc, hr⟩ := h
  rw [hl, h1] at hc
  obtain ⟨l⟩ := cs
  match x, hl, l, hc, hr with
  | [a, b, c], _, [c0, c1, c2], _, hr => exact ⟨a, b, c, c0, c1, c2, rfl, rfl, by have := hr 0 a rfl; rw [h1] at this; exact this, by have := hr 1 b rfl; rw [h1] at this; exact this, by have := hr 2 c rfl; rw [h1] at this; exact this⟩
end
end Go.Proofs.YtmifoihfpjomaaaO

-- OpenW
namespace Go.Proofs.YtmifoihfpjomaaaO
set_option linter.unusedSimpArgs false
open Go Go.RowKit Go.ChangeShapes Go.WideShapes Go.ChangeAt Go.Proofs.YtmifoihfpjomaaaW.PrintWords
/-- cells of type t that can be read as data of no more weight than is reached are some x of kind d -/
def OpensW {α : Type} (P : Program) (t : TypeId) (d : Kd α) (ok : α → Prop) : Prop :=
  ∀ (H : Type) (enc : TypeId × Value → H) (W : World) (sp : Nat → Bool) (held : Bool) (fuel : Nat) (cs : List Value) (y : DataW H × List MemPlace), DataW.trod enc P W 0 sp held fuel t cs = some y → (∀ n ∈ y.1.weights P t, n ≤ reachBytes) → ∃ x, d.K W x cs ∧ ok x
section
variable {P : Program} {α : Type}
theorem Opens.w {t : TypeId} {d : Kd α} {ok : α → Prop} (h : Opens P t d ok) : OpensW P t d ok := fun H enc W sp held fuel cs y hy _ => h H enc W sp held fuel cs y hy
theorem opensW_string {t : TypeId} (hu : P.underlying t = some .string) : OpensW P t Kd.string (fun s => s.size ≤ 140737488351232) := by
  intro H enc W sp held fuel cs y h hw
  cases fuel with
  | zero => simp [DataW.trod] at h
  | succ n =>
    have key : ∃ s, cs = [.string s] ∧ y.1 = .lit (.string s.data.toList) := by
      simp only [DataW.trod, hu] at h
      split at h <;> simp_all
      rw [← h.2]
    obtain ⟨s, rfl, hy⟩ := key
    refine ⟨s, rfl, ?_⟩
    have := hw s.size (by rw [hy]; simp [DataW.weights])
    exact this
theorem mapM_mem {β γ : Type} {f : β → Option γ} : ∀ {l : List β} {ys : List γ}, l.mapM f = some ys → ∀ (x : β) (z : γ), x ∈ l → f x = some z → z ∈ ys
  | [], ys, h, x, z, hx, _ => by simp at hx
  | a :: l, ys, h, x, z, hx, hz => by
    simp only [List.mapM_cons] at h
    obtain ⟨b, hb, h⟩ := Option.bind_eq_some_iff.1 h
    obtain ⟨bs, hbs, h⟩ := Option.bind_eq_some_iff.1 h
    simp at h
    subst h
    rcases List.mem_cons.1 hx with rfl | hx
    · rw [hb] at hz; injection hz with hz; subst hz; simp
    · exact List.mem_cons_of_mem _ (mapM_mem hbs x z hx hz)
theorem weightsAll_mem {H : Type} {e : TypeId} {d : DataW H} {n : Nat} : ∀ {ds : List (DataW H)}, d ∈ ds → n ∈ d.weights P e → n ∈ DataW.weightsAll P e ds
  | [], h, _ => by simp at h
  | a :: ds, h, hn => by
    simp only [DataW.weightsAll]
    rcases List.mem_cons.1 h with rfl | h
    · exact List.mem_append_left _ hn
    · exact List.mem_append_right _ (weightsAll_mem h hn)
theorem opensW_slice {t e : TypeId} {d : Kd α} {ok : α → Prop} (hu : P.underlying t = some (.slice e)) (he : OpensW P e d ok) (hc : P.cellsOf e = d.sz) : OpensW P t (Kd.slice e d) (fun xs => ∀ x ∈ xs, ok x) := by
  intro H enc W sp held fuel cs y h hw
  cases fuel with
  | zero => simp [DataW.trod] at h
  | succ n =>
    have key : cs = [.slice none 0 0] ∨ ∃ a len cap, cs = [.slice (some a) len cap] ∧ len ≤ cap ∧ cap ≤ maxLen ∧ ∃ elems rest, (List.range len).mapM (fun i => (W.cells? 0 (a.add (i * P.cellsOf e)) (P.cellsOf e)).bind (DataW.trod enc P W 0 sp held n e)) = some elems ∧ y.1 = .slice (elems.map (·.1)) rest := by
      simp only [DataW.trod, hu] at h
      split at h <;> try (simp_all; done)
      rename_i e' a len cap heq
      simp only [Option.some.injEq, TypeDesc.slice.injEq] at heq
      subst heq
      split at h
      · rename_i hb
        obtain ⟨elems, he1, h⟩ := Option.bind_eq_some_iff.1 h
        obtain ⟨rest, _, h⟩ := Option.map_eq_some_iff.1 h
        refine .inr ⟨a, len, cap, rfl, hb.2.1, hb.2.2, elems, rest.map (·.1), he1, ?_⟩
        rw [← h]
      · cases h
    rcases key with rfl | ⟨a, len, cap, rfl, h1, h2, elems, rest, he1, hy⟩
    · exact ⟨[], ⟨none, 0, rfl, by simp, by simp [Kd.C, ReadsRow]⟩, by simp⟩
    · rw [hc] at he1
      have hm := mapM_get he1
      obtain ⟨xs, x1, x2, x3⟩ := choose_list (ok := ok) (Q := fun i x => ∃ c, W.cells? 0 (a.add (i * d.sz)) d.sz = some c ∧ d.K W x c) len (fun i hi => by
        obtain ⟨z, hz⟩ := hm.2 i i (by simp [hi])
        have hmem := mapM_mem he1 i z (by simp [hi]) hz
        obtain ⟨c, hc1, hc2⟩ := Option.bind_eq_some_iff.1 hz
        obtain ⟨x, hx, hk⟩ := he H enc W sp held n c z hc2 (fun q hq => hw q (by
          rw [hy]
          simp only [DataW.weights, hu]
          exact List.mem_cons_of_mem _ (List.mem_append_left _ (weightsAll_mem (List.mem_map_of_mem hmem) hq))))
        exact ⟨x, ⟨c, hc1, hx⟩, hk⟩)
      refine ⟨xs, ⟨some a, cap, by rw [x1], by omega, ?_⟩, x3⟩
      refine ⟨rfl, by have : maxLen = 9223372036854775807 := rfl; omega, fun _ => ⟨a, rfl, fun j p hp => ?_⟩⟩
      obtain ⟨c, hc1, hk⟩ := x2 j p hp
      have hg := cells_get hc1
      refine ⟨c, hg.1, hk, fun i u hiu => ?_⟩
      have := hg.2 i u hiu
      rw [← this]
      congr 1
      unfold Addr.add
      by_cases z1 : j * d.sz = 0
      · rw [if_pos z1]
        by_cases z2 : i = 0
        · simp [z1, z2]
        · rw [if_neg (by omega), if_neg z2]; simp [z1]
      · rw [if_neg z1, if_neg (by omega)]
        by_cases z2 : i = 0
        · simp [z2]
        · rw [if_neg z2]; simp [Nat.add_assoc]
theorem opensW_array {t e n : Nat} {d : Kd α} {ok : α → Prop} (hs : 0 < d.sz) (hu : P.underlying t = some (.array n e)) (he : OpensW P e d ok) (hc : P.cellsOf e = d.sz) (ht : P.cellsOf t = n * d.sz) : OpensW P t (Kd.arr n d hs) (fun xs => ∀ x ∈ xs, ok x) := by
  intro H enc W sp held fuel cs y h hw
  cases fuel with
  | zero => simp [DataW.trod] at h
  | succ m =>
    simp only [DataW.trod, hu] at h
    split at h
    · rename_i hl
      obtain ⟨ys, hy, hyy⟩ := Option.map_eq_some_iff.1 h
      have hm := mapM_get hy
      obtain ⟨xs, x1, x2, x3⟩ := choose_list (ok := ok) (Q := fun i x => d.K W x ((cs.drop (i * d.sz)).take d.sz)) n (fun i hi => by
        obtain ⟨z, hz⟩ := hm.2 i i (by simp [hi])
        have hmem := mapM_mem hy i z (by simp [hi]) hz
        rw [hc] at hz
        exact he H enc W sp held m _ z hz (fun q hq => hw q (by
          rw [← hyy]
          simp only [DataW.weights, hu]
          exact weightsAll_mem (List.mem_map_of_mem hmem) hq)))
      exact ⟨xs, ⟨x1, by rw [x1, hl, ht], x2⟩, x3⟩
    · cases h
/-- an argument of a kind -/
theorem opensW_arg {t : TypeId} {d : Kd α} {ok : α → Prop} (ho : OpensW P t d ok) {H : Type} {enc : TypeId × Value → H} {W : World} {sp : Nat → Bool} {held : Bool} {v : Value} {y : DataW H} {ps : List MemPlace} {ts : List TypeId} {ds : List (DataW H)} {j : Nat}
    (hsz : (DataW.weightsEach P ts ds).all (· ≤ reachBytes) = true) (ht : ts[j]? = some t) (hd : ds[j]? = some y) (h : DataW.Trod enc P W 0 sp held t v y ps) : ∃ x, d.K W x v.cells.toList ∧ ok x := by
  obtain ⟨fuel, hf⟩ := h
  exact ho H enc W sp held fuel _ _ hf (fun n hn => by
    have := List.all_eq_true.1 hsz _ (DataW.weights_mem_each ht hd n hn)
    simpa using this)
end
end Go.Proofs.YtmifoihfpjomaaaO

-- OpenS
namespace Go.Proofs.YtmifoihfpjomaaaO
set_option linter.unusedSimpArgs false
open Go Go.RowKit Go.ChangeShapes Go.WideShapes Go.ChangeAt Go.Proofs.YtmifoihfpjomaaaW.PrintWords
section
variable {P : Program} {α β : Type}
/-- the fields from a place on -/
def OpensF (P : Program) (fs : List Field) (off : Nat) (d : Kd α) (ok : α → Prop) : Prop :=
  ∀ (H : Type) (enc : TypeId × Value → H) (W : World) (sp : Nat → Bool) (held : Bool) (fuel : Nat) (cs : List Value) (ys : List (DataW H × List MemPlace)),
    fs.mapM (fun f => DataW.trod enc P W 0 sp held fuel f.type ((cs.drop f.offset).take (P.cellsOf f.type))) = some ys → (∀ n ∈ DataW.weightsEach P (fs.map (·.type)) (ys.map (·.1)), n ≤ reachBytes) →
    ∃ x, d.K W x ((cs.drop off).take d.sz) ∧ ok x
theorem opensF_one {f : Field} {d : Kd α} {ok : α → Prop} (h : OpensW P f.type d ok) (hc : P.cellsOf f.type = d.sz) : OpensF P [f] f.offset d ok := by
  intro H enc W sp held fuel cs ys hy hw
  simp only [List.mapM_cons, List.mapM_nil] at hy
  obtain ⟨y, hy1, hy⟩ := Option.bind_eq_some_iff.1 hy
  simp at hy
  subst hy
  rw [hc] at hy1
  exact h H enc W sp held fuel _ y hy1 fun n hn => hw n (by simp [DataW.weightsEach, hn])
theorem opensF_cons {f : Field} {fs : List Field} {d : Kd α} {d2 : Kd β} {ok : α → Prop} {ok2 : β → Prop} (h : OpensW P f.type d ok) (hc : P.cellsOf f.type = d.sz) (h2 : OpensF P fs (f.offset + d.sz) d2 ok2) :
    OpensF P (f :: fs) f.offset (Kd.pair d d2) (fun x => ok x.1 ∧ ok2 x.2) := by
  intro H enc W sp held fuel cs ys hy hw
  simp only [List.mapM_cons] at hy
  obtain ⟨y, hy1, hy⟩ := Option.bind_eq_some_iff.1 hy
  obtain ⟨ys2, hy2, hy⟩ := Option.bind_eq_some_iff.1 hy
  simp at hy
  subst hy
  rw [hc] at hy1
  obtain ⟨x1, k1, o1⟩ := h H enc W sp held fuel _ y hy1 fun n hn => hw n (by simp [DataW.weightsEach, hn])
  obtain ⟨x2, k2, o2⟩ := h2 H enc W sp held fuel cs ys2 hy2 fun n hn => hw n (by
    simp only [List.map_cons, DataW.weightsEach]
    exact List.mem_append_right _ hn)
  refine ⟨(x1, x2), ⟨_, _, ?_, k1, k2⟩, o1, o2⟩
  show (cs.drop f.offset).take (d.sz + d2.sz) = _
  rw [List.take_add, List.drop_drop]
theorem opensW_struct {t : TypeId} {fs : Array Field} {d : Kd α} {ok : α → Prop} (hu : P.underlying t = some (.struct fs)) (h : OpensF P fs.toList 0 d ok) (hc : P.cellsOf t = d.sz) : OpensW P t d ok := by
  intro H enc W sp held fuel cs y hy hw
  cases fuel with
  | zero => simp [DataW.trod] at hy
  | succ n =>
    have key : cs.length = P.cellsOf t ∧ ∃ ys, fs.toList.mapM (fun f => DataW.trod enc P W 0 sp held n f.type ((cs.drop f.offset).take (P.cellsOf f.type))) = some ys ∧ y.1 = .agg (ys.map (·.1)) := by
      simp only [DataW.trod, hu] at hy
      split at hy
      · rename_i hl
        obtain ⟨ys, h1, h2⟩ := Option.map_eq_some_iff.1 hy
        exact ⟨hl, ys, h1, by rw [← h2]⟩
      · cases hy
    obtain ⟨hl, ys, hy1, hy2⟩ := key
    obtain ⟨x, hx, ho⟩ := h H enc W sp held n cs ys hy1 fun q hq => hw q (by
      rw [hy2]
      simp only [DataW.weights, hu]
      exact hq)
    refine ⟨x, ?_, ho⟩
    rw [List.drop_zero, ← hc, ← hl, List.take_length] at hx
    exact hx
theorem opensW_iso {t : TypeId} {d : Kd α} {ok : α → Prop} (f : β → α) (g : α → β) (hfg : ∀ x, f (g x) = x) (h : OpensW P t d ok) : OpensW P t (Kd.iso d f) (fun x => ok (f x)) := by
  intro H enc W sp held fuel cs y hy hw
  obtain ⟨x, hx, ho⟩ := h H enc W sp held fuel cs y hy hw
  exact ⟨g x, by show d.K W (f (g x)) cs; rw [hfg]; exact hx, by show ok (f (g x)); rw [hfg]; exact ho⟩
theorem okWide_struct {t : TypeId} {fs : Array Field} {r : Reach} {b0 : Nat} {v : Value} {W : World} (hu : P.underlying t = some (.struct fs)) (h : Value.okWide P W r b0 t v) : ∃ cs, v = .agg cs ∧ cs.size = P.cellsOf t := by
  simp only [Value.okWide, hu] at h
  obtain ⟨cs, h1, h2, _⟩ := h
  exact ⟨cs, h1, h2⟩
end
end Go.Proofs.YtmifoihfpjomaaaO

-- RowAuditChains
namespace Go.Proofs.Ytmifoihfpjomaaa.auditChains
open Go.ChangeShapes Go.WideShapes Go.ChangeAt Go.RowKit
open Go.ChangeMaps (open_string shut_string)
set_option linter.unusedVariables false
set_option linter.unusedSimpArgs false
theorem own : ownKnob Try.prog.godebug = none := by kernel_rfl
theorem laidOut : laidOutB Try.prog = true := by kernel_rfl
set_option maxRecDepth 100000 in
theorem lifted (os : Os) (started : os.Started) (H : Type) (enc : TypeId × Value → H) :
    ReturnsInHanded {} Try.checked os 6 .any (Rows.auditChainsSpec.pre6 enc Try.prog Try.f6 Rows.auditChainsRow.domain false) (Rows.auditChainsSpec.post enc Try.prog Try.f6 false true false false) := by
  refine returnsInHanded_of_change_sized (C := Try.checked) own started (by kernel_rfl) Try.func6
    (ChangeSpec.witness6 (enc := enc) (C := Try.checked) false ⟨#[], #[.agg #[.string ByteArray.empty, .int .i64 0, .slice none 0 0], .agg #[.int .i64 0, .int .i64 0, .int .i64 0, .string ByteArray.empty, .int .i64 0]], []⟩ 8 (by kernel_rfl) (by kernel_rfl) (by kernel_rfl) (by kernel_rfl)) ?_
  intro W base args ds gs before hval0 hW hcnd hsz0 _
  have hsz : (DataW.weightsEach Try.prog (Try.f6.params.toList ++ Rows.auditChainsSpec.plain.varTypes Try.prog) (ds ++ gs)).all (· ≤ reachBytes) = true := hsz0
  have hval : ∀ (j : Nat) t v, Try.f6.params[j]? = some t → args[j]? = some v → Value.okWide Try.prog W .any base t v := hval0
  have hW' := hW
  obtain ⟨p, q, hA0, hV, rfl, hfz, hnd⟩ := hW
  have hA : DataW.TrodAll enc Try.prog W 0 (fun _ => true) true Try.f6.params.toList args.toList ds p := hA0
  rw [Try.params6] at hA hval hsz
  obtain ⟨v0, vs0, d0, ds0, p0, q0, hargs, rfl, rfl, h0, r0⟩ := trodAll_cons hA
  obtain ⟨v1, vs1, d1, ds1, p1, q1, rfl, rfl, rfl, h1, r1⟩ := trodAll_cons r0
  obtain ⟨rfl, rfl, rfl⟩ := trodAll_nil r1
  obtain rfl : args = #[v0, v1] := by cases args; simp_all
  obtain ⟨rfl, rfl⟩ := trodVars_none hV
  have k0 := h0
  have lt0 : ∀ x ∈ p0, x.block < W.heap.size := by obtain ⟨m, hm⟩ := k0; exact DataW.trod_lt m _ _ _ hm
  obtain ⟨cs0, rfl, hcs0⟩ := Go.Proofs.YtmifoihfpjomaaaO.okWide_struct Try.underlying24 (hval 0 24 v0 rfl rfl)
  obtain ⟨⟨x0_0, x0_1, x0_2⟩, ⟨c0_0, r0_0, e0_0, K0_0, c0_1, c0_2, e0_1, K0_1, K0_2⟩, ok0_0, ok0_1, ok0_2⟩ := Go.Proofs.YtmifoihfpjomaaaO.opensW_arg (d := (Go.Proofs.YtmifoihfpjomaaaW.PrintWords.Kd.pair Go.Proofs.YtmifoihfpjomaaaW.PrintWords.Kd.string (Go.Proofs.YtmifoihfpjomaaaW.PrintWords.Kd.pair (Go.Proofs.YtmifoihfpjomaaaW.PrintWords.Kd.int .i64) (Go.Proofs.YtmifoihfpjomaaaW.PrintWords.Kd.slice 36 Go.Proofs.Ytmifoihfpjomaaa.F.k36)))) (Go.Proofs.YtmifoihfpjomaaaO.opensW_struct Try.underlying24 (Go.Proofs.YtmifoihfpjomaaaO.opensF_cons (Go.Proofs.YtmifoihfpjomaaaO.opensW_string Try.underlying9) (by kernel_rfl) (Go.Proofs.YtmifoihfpjomaaaO.opensF_cons (Go.Proofs.YtmifoihfpjomaaaO.Opens.w (Go.Proofs.YtmifoihfpjomaaaO.opens_int Try.underlying3)) (by kernel_rfl) (Go.Proofs.YtmifoihfpjomaaaO.opensF_one (Go.Proofs.YtmifoihfpjomaaaO.opensW_slice Try.underlying22 (show Go.Proofs.YtmifoihfpjomaaaO.OpensW _ _ Go.Proofs.Ytmifoihfpjomaaa.F.k36 _ from Go.Proofs.YtmifoihfpjomaaaO.opensW_iso (fun x : Go.Proofs.Ytmifoihfpjomaaa.F.S36 => (x.f0, x.f1, x.f2, x.f3, x.f4)) (fun p => ⟨p.1, p.2.1, p.2.2.1, p.2.2.2.1, p.2.2.2.2⟩) (fun _ => rfl) (Go.Proofs.YtmifoihfpjomaaaO.opensW_struct Try.underlying36 (Go.Proofs.YtmifoihfpjomaaaO.opensF_cons (Go.Proofs.YtmifoihfpjomaaaO.Opens.w (Go.Proofs.YtmifoihfpjomaaaO.opens_int Try.underlying3)) (by kernel_rfl) (Go.Proofs.YtmifoihfpjomaaaO.opensF_cons (Go.Proofs.YtmifoihfpjomaaaO.Opens.w (Go.Proofs.YtmifoihfpjomaaaO.opens_int Try.underlying3)) (by kernel_rfl) (Go.Proofs.YtmifoihfpjomaaaO.opensF_cons (Go.Proofs.YtmifoihfpjomaaaO.Opens.w (Go.Proofs.YtmifoihfpjomaaaO.opens_int Try.underlying3)) (by kernel_rfl) (Go.Proofs.YtmifoihfpjomaaaO.opensF_cons (Go.Proofs.YtmifoihfpjomaaaO.opensW_string Try.underlying9) (by kernel_rfl) (Go.Proofs.YtmifoihfpjomaaaO.opensF_one (Go.Proofs.YtmifoihfpjomaaaO.Opens.w (Go.Proofs.YtmifoihfpjomaaaO.opens_int Try.underlying34)) (by kernel_rfl)))))) (by kernel_rfl))) (by kernel_rfl)) (by kernel_rfl)))) (by kernel_rfl)) hsz (j := 0) (t := 24) rfl rfl h0
  obtain rfl := K0_0
  obtain rfl := K0_1
  obtain ⟨A0_2, cp0_2, ee0_2, hc0_2, hC0_2⟩ := K0_2
  subst ee0_2
  subst e0_1
  obtain rfl : cs0 = #[.string x0_0, .int .i64 x0_1, .slice A0_2 (List.length x0_2) cp0_2] := Array.ext' (by first | exact e0_0 | simpa using e0_0)
  have k1 := h1
  have lt1 : ∀ x ∈ p1, x.block < W.heap.size := by obtain ⟨m, hm⟩ := k1; exact DataW.trod_lt m _ _ _ hm
  obtain ⟨cs1, rfl, hcs1⟩ := Go.Proofs.YtmifoihfpjomaaaO.okWide_struct Try.underlying36 (hval 1 36 v1 rfl rfl)
  obtain ⟨⟨x1_0, x1_1, x1_2, x1_3, x1_4⟩, ⟨c1_0, r1_0, e1_0, K1_0, c1_1, r1_1, e1_1, K1_1, c1_2, r1_2, e1_2, K1_2, c1_3, c1_4, e1_3, K1_3, K1_4⟩, ok1_0, ok1_1, ok1_2, ok1_3, ok1_4⟩ := Go.Proofs.YtmifoihfpjomaaaO.opensW_arg (d := (Go.Proofs.YtmifoihfpjomaaaW.PrintWords.Kd.pair (Go.Proofs.YtmifoihfpjomaaaW.PrintWords.Kd.int .i64) (Go.Proofs.YtmifoihfpjomaaaW.PrintWords.Kd.pair (Go.Proofs.YtmifoihfpjomaaaW.PrintWords.Kd.int .i64) (Go.Proofs.YtmifoihfpjomaaaW.PrintWords.Kd.pair (Go.Proofs.YtmifoihfpjomaaaW.PrintWords.Kd.int .i64) (Go.Proofs.YtmifoihfpjomaaaW.PrintWords.Kd.pair Go.Proofs.YtmifoihfpjomaaaW.PrintWords.Kd.string (Go.Proofs.YtmifoihfpjomaaaW.PrintWords.Kd.int .i64)))))) (Go.Proofs.YtmifoihfpjomaaaO.opensW_struct Try.underlying36 (Go.Proofs.YtmifoihfpjomaaaO.opensF_cons (Go.Proofs.YtmifoihfpjomaaaO.Opens.w (Go.Proofs.YtmifoihfpjomaaaO.opens_int Try.underlying3)) (by kernel_rfl) (Go.Proofs.YtmifoihfpjomaaaO.opensF_cons (Go.Proofs.YtmifoihfpjomaaaO.Opens.w (Go.Proofs.YtmifoihfpjomaaaO.opens_int Try.underlying3)) (by kernel_rfl) (Go.Proofs.YtmifoihfpjomaaaO.opensF_cons (Go.Proofs.YtmifoihfpjomaaaO.Opens.w (Go.Proofs.YtmifoihfpjomaaaO.opens_int Try.underlying3)) (by kernel_rfl) (Go.Proofs.YtmifoihfpjomaaaO.opensF_cons (Go.Proofs.YtmifoihfpjomaaaO.opensW_string Try.underlying9) (by kernel_rfl) (Go.Proofs.YtmifoihfpjomaaaO.opensF_one (Go.Proofs.YtmifoihfpjomaaaO.Opens.w (Go.Proofs.YtmifoihfpjomaaaO.opens_int Try.underlying34)) (by kernel_rfl)))))) (by kernel_rfl)) hsz (j := 1) (t := 36) rfl rfl h1
  obtain rfl := K1_0
  obtain rfl := K1_1
  obtain rfl := K1_2
  obtain rfl := K1_3
  obtain rfl := K1_4
  subst e1_3
  subst e1_2
  subst e1_1
  obtain rfl : cs1 = #[.int .i64 x1_0, .int .i64 x1_1, .int .i64 x1_2, .string x1_3, .int .i64 x1_4] := Array.ext' (by first | exact e1_0 | simpa using e1_0)
  clear hA0 hval0 hsz0 hsz
  refine (Go.Proofs.YtmifoihfpjomaaaR.is_tells (Go.Proofs.Ytmifoihfpjomaaa.F.AuditChains_c W x0_0 x0_1 A0_2 cp0_2 x0_2 x1_0 x1_1 x1_2 x1_3 x1_4 ok0_0 ok0_1 hC0_2 hc0_2 ok0_2 ok1_0 ok1_1 ok1_2 ok1_3 ok1_4)).mono fun e W' ⟨he, bel⟩ => ?_
  subst he
  exact ⟨_, rfl, _, _, _, [], _, [], hW', trodAll_mk1 (shut_bool Try.underlying4 _), (trodAll_cons_mk (Below.trod laidOut (by kernel_rfl) (of_decide_eq_true (by kernel_rfl)) k0 bel lt0) (trodAll_cons_mk (Below.trod laidOut (by kernel_rfl) (of_decide_eq_true (by kernel_rfl)) k1 bel lt1) trodAll_mk0)), rfl, bel.frame _, fun h => by cases h⟩
theorem over : Rows.auditChainsRow.holds Try.pinned (OpenSpec.ofChange Rows.auditChainsSpec) :=
  OpenClaim.holds_of_wide 6 Try.f6 rfl rfl rfl rfl rfl rfl rfl ⟨rfl, rfl, rfl, rfl, rfl⟩ rfl rfl rfl rfl rfl (by kernel_rfl) Try.func6 (by kernel_rfl)
    (of_decide_eq_true (by kernel_rfl)) (by unfold Func.isWrapper; first | (rw [if_pos (by decide +kernel)]; kernel_rfl) | (rw [if_neg (by decide +kernel)]; exact ⟨rfl, rfl⟩))
    (fun os started H enc _ => lifted os started H enc)
end Go.Proofs.Ytmifoihfpjomaaa.auditChains
namespace Go.Proofs.Ytmifoihfpjomaaa
/-- The row, under a short name, for the claim. -/
theorem auditChains_holds : Rows.AuditChainsSaid := auditChains.over
#print axioms auditChains_holds
end Go.Proofs.Ytmifoihfpjomaaa
