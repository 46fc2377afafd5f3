/- Texts of this seat laid together: AudL, AudO, AudF, AudR, AudP, RegQ, AudT. -/
import Derived.Test.YtmifoihfpjomaaaSC
import Derived.Test.YtmifoihfpjomaaaSA

-- AudL
namespace Go.Proofs.Ytmifoihfpjomaaa.F
open Go Go.RowKit Go.Proofs.YtmifoihfpjomaaaW.PrintWords Go.Proofs.YtmifoihfpjomaaaW.PrintLast Go.Proofs.YtmifoihfpjomaaaW.PrintMore Go.Proofs.YtmifoihfpjomaaaM Go.Proofs.YtmifoihfpjomaaaR
attribute [local go_sem] max2_int min2_int max_two min_two
set_option linter.unusedSimpArgs false
set_option linter.unusedVariables false
set_option maxRecDepth 100000
/-- an audit whose entries are read -/
def AuV (a : ByteArray) (last : Int) (l : List En) : World → Value → Prop := fun w v => ∃ A c, v = .agg #[.string a, .int .i64 last, .slice A l.length c] ∧ l.length ≤ c ∧ Kd.C k36 w A l.length l
theorem AuV.stable (a : ByteArray) (last : Int) (l : List En) : ∀ w w' v, Grew w w' → AuV a last l w v → AuV a last l w' v := fun _ _ _ hg ⟨A, c, h1, h2, h3⟩ => ⟨A, c, h1, h2, Kd.C_below h3 hg⟩
theorem mine_c (a : ByteArray) (last : Int) (A : Option Addr) (c : Nat) (l : List En) (w : World) (hr : Kd.C k36 w A l.length l) (hc : l.length ≤ c) (hl : l.length ≤ 100000) :
    Calls Try.prog 16 #[.agg #[.string a, .int .i64 last, .slice A l.length c]] w (Tells w (AuV a last l)) := by
  refine (strongroomlaw13_mine.calls a last A c l a last l w hr hc (by unfold strongroomlaw13_mine.f; rw [if_pos (by simp; omega)]; rfl)).mono fun e w' ⟨v, he, hR, hb⟩ => ?_
  obtain ⟨A', c', rfl, hc', hC⟩ := Kd.R_reads hR
  exact ⟨_, he, ⟨A', c', rfl, hc', hC⟩, hb⟩
theorem anew_c (w : World) : Calls Try.prog 11 #[] w (Tells w (AuV (strOfNums (List.replicate 32 0)) 0 [])) := by
  refine (audit_New.calls (strOfNums (List.replicate 32 0)) 0 [] w (by unfold audit_New.f; rw [if_pos (by decide)])).mono fun e w' ⟨v, he, hR, hb⟩ => ?_
  obtain ⟨A', c', rfl, hc', hC⟩ := Kd.R_reads hR
  exact ⟨_, he, ⟨A', c', rfl, hc', hC⟩, hb⟩
theorem small_l0 (a : ByteArray) (last : Int) (l : List En) (hl : l.length ≤ 40) : ∀ (suf pre : List En) (k : Nat), l = pre ++ suf → suf.length + 1 ≤ k → ∃ b, strongroomlaw13_small.l0 k (pre.length : Int) a last l = some b := by
  intro suf
  induction suf with
  | nil =>
    intro pre k hp hk
    obtain ⟨k, rfl⟩ : ∃ m, k = m + 1 := ⟨k - 1, by omega⟩
    have : pre.length = l.length := by rw [hp]; simp
    simp only [strongroomlaw13_small.l0]
    rw [if_neg (by omega)]
    exact ⟨_, rfl⟩
  | cons e suf ih =>
    intro pre k hp hk
    obtain ⟨k, rfl⟩ : ∃ m, k = m + 1 := ⟨k - 1, by simp at hk; omega⟩
    have hlen : pre.length + (suf.length + 1) = l.length := by rw [hp]; simp
    simp only [strongroomlaw13_small.l0]
    rw [if_pos (by omega), if_pos (by omega)]
    split
    · exact ⟨_, rfl⟩
    · rw [w64 (x := (pre.length : Int) + 1) (by omega) (by omega)]
      have := ih (pre ++ [e]) k (by rw [hp]; simp) (by simp at hk; omega)
      rw [show (((pre ++ [e]).length : Nat) : Int) = (pre.length : Int) + 1 from by simp] at this
      exact this
theorem small_c (a : ByteArray) (last : Int) (l : List En) : ∃ b, (b = true → l.length ≤ 40) ∧ ∀ (w : World) (A : Option Addr) (c : Nat), Kd.C k36 w A l.length l → l.length ≤ c →
    Calls Try.prog 9 #[.agg #[.string a, .int .i64 last, .slice A l.length c]] w (Tells w (Is (.bool b))) := by
  have key : ∃ k b, strongroomlaw13_small.f k a last l = some b ∧ (b = true → l.length ≤ 40) := by
    unfold strongroomlaw13_small.f
    by_cases h : (l.length : Int) > 40
    · refine ⟨1, false, ?_, by simp⟩
      rw [if_pos h]; simp [strongroomlaw13_small.j0]
    · by_cases h2 : (a.size : Int) > 1000
      · refine ⟨1, false, ?_, by simp⟩
        rw [if_neg h, decide_eq_true h2]; simp [strongroomlaw13_small.j0]
      · obtain ⟨b, hb⟩ := small_l0 a last l (by omega) l [] (l.length + 1) rfl (Nat.le_refl _)
        refine ⟨l.length + 2, b, ?_, fun _ => by omega⟩
        rw [if_neg h, decide_eq_false h2]
        simp only [strongroomlaw13_small.j0]
        rw [if_neg (by simp)]
        exact hb
  obtain ⟨k, b, hf, hb⟩ := key
  exact ⟨b, hb, fun w A c hr hc => tells_is ((strongroomlaw13_small.calls k a last A c l b w hr hc hf).mono fun _ _ h => h)⟩
def Z32 : ByteArray := strOfNums (List.replicate 32 0)
theorem z32_size : Z32.size = 32 := by unfold Z32; rw [str_size, List.length_replicate]
set_option maxHeartbeats 4000000 in
theorem lives_c (w : World) : Calls Try.prog 10 #[] w (Tells w (Is (.bool true))) := by
  have hA := fun (w : World) (A : Option Addr) (c : Nat) (hr : Kd.C k36 w A 0 []) => add_c Z32 0 A c [] 0 3 1 ⟨#[97]⟩ 0 w hr (Nat.zero_le _)
  have hp : addP Z32 0 [] ⟨0, 3, 1, ⟨#[97]⟩, 0⟩ = some (Z32, [⟨1, 3, 1, ⟨#[97]⟩, 0⟩]) := by
    unfold addP
    have h1 : mayP Z32 0 [] = true := by unfold mayP; rw [z32_size]; rfl
    rw [h1]
    rfl
  rw [hp] at hA
  have HADD := Lib.hid hA
  have hgd : goodP ⟨1, 3, 1, ⟨#[97]⟩, 0⟩ = true := by rfl
  have HDG := Lib.hid (fun (w : World) (A : Option Addr) (c : Nat) (hr : Kd.C k36 w A 1 [⟨1, 3, 1, ⟨#[97]⟩, 0⟩]) (hc : 1 ≤ c) => digest_c Z32 1 A c [⟨1, 3, 1, ⟨#[97]⟩, 0⟩] w hr hc)
  have hdp : digP Z32 1 [⟨1, 3, 1, ⟨#[97]⟩, 0⟩] = strOfNums (sealL (bytesOf Z32) (bytesE ⟨1, 3, 1, ⟨#[97]⟩, 0⟩)) := by
    unfold digP
    have h1 : mayP Z32 1 [⟨1, 3, 1, ⟨#[97]⟩, 0⟩] = true := by unfold mayP; rw [z32_size]; rfl
    rw [h1]; rfl
  rw [hdp] at HDG
  obtain ⟨S, hS⟩ : ∃ S, S = strOfNums (sealL (bytesOf Z32) (bytesE ⟨1, 3, 1, ⟨#[97]⟩, 0⟩)) := ⟨_, rfl⟩
  obtain ⟨BY, hBY⟩ : ∃ BY, BY = strOfNums (bytesE ⟨1, 3, 1, ⟨#[97]⟩, 0⟩) := ⟨_, rfl⟩
  have HRB := Lib.hid (fun w => rbytes_c 1 3 1 ⟨#[97]⟩ 0 hgd w)
  have HSE := Lib.hid (fun w => seal_c w (bytesOf Z32) (bytesE ⟨1, 3, 1, ⟨#[97]⟩, 0⟩) (bytesOf_bytes _) (bytesE_bytes _) (by rw [bytesOf_length, z32_size]; omega) (by have := bytesE_len hgd; omega))
  rw [str_bytes, ← hBY, ← hS] at HSE
  rw [← hBY] at HRB
  rw [← hS] at HDG
  obtain ⟨Z, hZ⟩ : ∃ Z, Z = Z32 := ⟨_, rfl⟩
  have hZ2 : strOfNums (List.replicate 32 0) = Z := by rw [hZ]; rfl
  have HNEW := Lib.hid (fun w => anew_c w)
  rw [hZ2] at HNEW
  rw [← hZ] at HADD HDG HSE
  obtain ⟨L32, hL32⟩ : ∃ L : List Int, L = List.replicate 32 0 := ⟨_, rfl⟩
  have HL3 := Lib.hid (show L32.length = 32 from by rw [hL32, List.length_replicate])
  have HZ3 := Lib.hid (show strOfNums L32 = Z from by rw [hL32]; exact hZ2)
  have HL32 := Lib.hid hL32
  clear hL32
  have HZ2 := Lib.hid hZ2
  clear hA hp hdp hS hBY hZ hZ2 hgd
  go_enter Try.func10, Try.ntmps10
  go_wp2_with fail
  refine (HNEW.out w).mono ?_
  rintro e w1 ⟨_, rfl, ⟨A, c, rfl, hc, hC⟩, hg1⟩
  simp only [List.length_nil]
  go_wp2_with fail
  refine (HADD.out w1 A c hC).mono ?_
  rintro e w2 ⟨_, rfl, ⟨v0, rfl, hro⟩, hg2⟩
  obtain ⟨A2, c2, rfl, hc2, hC2⟩ := rowO_C hro rfl
  obtain ⟨g2, o2, cap2, hv2, -, -, -, hcell, -⟩ := hro.at_ (by simp)
  injection hv2 with hv21 hv22 hv23
  subst hv21 hv23
  simp only [List.length_cons, List.length_nil, Nat.zero_add] at hC2 hc2 hv22
  have c0 := hcell 0 (by simp)
  have c1 := hcell 1 (by simp)
  have c2' := hcell 2 (by simp)
  have c3 := hcell 3 (by simp)
  have c4 := hcell 4 (by simp)
  simp [ens, enc5] at c0 c1 c2' c3 c4
  obtain ⟨W3, hW3⟩ : ∃ W3, W3 = w2.alloc (.cells #[.string Z, .int .i64 1, .slice (some ⟨g2, o2, none⟩) 1 c2] 27) := ⟨_, rfl⟩
  obtain ⟨g3, hg3⟩ : ∃ g3, g3 = w2.heap.size := ⟨_, rfl⟩
  have hb3 : Blk W3 g3 27 [.string Z, .int .i64 1, .slice (some ⟨g2, o2, none⟩) 1 c2] := by rw [hW3, hg3]; exact Blk.new _ _ _
  have hgr3 : Grew w2 W3 := by rw [hW3]; exact Grew.alloc _ _
  have HB := Lib.hid (fun wx (h : Grew W3 wx) => And.intro ((hb3.grew h).at_ 0) (And.intro ((hb3.grew h).at_ 1) ((hb3.grew h).at_ 2)))
  simp only [List.getElem?_cons_zero, List.getElem?_cons_succ] at HB
  have HE := Lib.hid (fun wx (h : Grew W3 wx) => And.intro (pw_cell_below (Grew.trans hgr3 h) c0) (And.intro (pw_cell_below (Grew.trans hgr3 h) c1) (And.intro (pw_cell_below (Grew.trans hgr3 h) c2') (And.intro (pw_cell_below (Grew.trans hgr3 h) c3) (pw_cell_below (Grew.trans hgr3 h) c4)))))
  have HDD := Lib.hid (show ∀ wx, Grew W3 wx → Calls Try.prog 20 #[.agg #[.string Z, .int .i64 1, .slice (some ⟨g2, o2, none⟩) 1 c2]] wx (Tells wx (Is (.string S))) from fun wx h => HDG.out wx _ c2 (Kd.C_below hC2 (Grew.trans hgr3 h)) hc2)
  have HGW := Lib.hid (show Grew w W3 from Grew.trans (Grew.trans hg1 hg2) hgr3)
  have HWE := Lib.hid hW3
  have HGE := Lib.hid hg3
  clear hC2 hro hcell c0 c1 c2' c3 c4 hb3 hgr3 hW3 hg3 hC hg1 hg2 hv22
  go_wp2_with fail
  rw [← HWE.out]
  rw [← HGE.out]
  apply region_grew [Is _, Is _, Is _, Is _, Is _, Is _, Is _, Is _, Is _, Is _, Is _, Is _, Is _, Is _, Is _, Is _, Row L32, Is _, Is _, Is _, Is _, Is _, Is _] [([(2, none)], none), ([(9, some 0)], none), ([(10, some 1)], none), ([(1, none), (11, some 2)], some (11, true)), ([(12, some 3), (11, some 2)], some (11, true)), ([(13, some 4), (11, some 2)], some (11, true)), ([(11, some 2), (14, some 5)], none), ([(15, some 6)], none), ([(1, none), (16, some 7)], some (16, true)), ([(17, some 8), (16, some 7)], some (16, true)), ([(18, some 9), (16, some 7)], some (16, true)), ([(19, some 10), (16, some 7)], some (16, true)), ([(16, some 7), (20, some 11)], none), ([(21, some 12)], none), ([(1, none), (22, some 13)], some (22, true)), ([(23, some 14), (22, some 13)], some (22, true)), ([(22, some 13)], some (22, true)), ([(25, some 16), (22, some 13)], some (22, true)), ([(1, none), (22, some 13)], some (22, true)), ([(27, some 18), (22, some 13)], some (22, true)), ([(28, some 19), (22, some 13)], some (22, true)), ([(29, some 20), (22, some 13)], some (22, true)), ([(30, some 21), (22, some 13)], some (22, true))] [(25, 16), (9, 0), (10, 1), (11, 2), (12, 3), (13, 4), (14, 5), (15, 6), (16, 7), (17, 8), (18, 9), (19, 10), (20, 11), (21, 12), (22, 13), (23, 14), (24, 15), (26, 17), (27, 18), (28, 19), (29, 20), (30, 21), (31, 22)] rfl (by kernel_rfl) (by kernel_rfl) (show Stable Grew _ from ⟨Is.stable _, Is.stable _, Is.stable _, Is.stable _, Is.stable _, Is.stable _, Is.stable _, Is.stable _, Is.stable _, Is.stable _, Is.stable _, Is.stable _, Is.stable _, Is.stable _, Is.stable _, Is.stable _, Row.stable _, Is.stable _, Is.stable _, Is.stable _, Is.stable _, Is.stable _, Is.stable _, trivial⟩)
  · show OpsHold _ _ _ _ _ _ _ _ _
    refine ⟨fun a_ wx hR hD K hK => ?_, ?_⟩
    · have hG : Grew W3 wx := (Grew.drew _).trans hR
      simp [Deps, Dep, at_, Is] at hD
      go_simp
      exact hK _ _ (Grew.refl _) rfl
    refine ⟨fun a_ wx hR hD K hK => ?_, ?_⟩
    · have hG : Grew W3 wx := (Grew.drew _).trans hR
      simp [Deps, Dep, at_, Is] at hD
      go_simp
      exact hK _ _ (Grew.refl _) rfl
    refine ⟨fun a_ wx hR hD K hK => ?_, ?_⟩
    · have hG : Grew W3 wx := (Grew.drew _).trans hR
      simp [Deps, Dep, at_, Is] at hD
      go_simp
      exact hK _ _ (Grew.refl _) rfl
    refine ⟨fun a_ wx hR hD => ⟨fun hgd K hK => ?_, fun hgd => ?_⟩, ?_⟩
    · have hG : Grew W3 wx := (Grew.drew _).trans hR
      clear hgd
      simp [Deps, Dep, at_, Is] at hD
      obtain ⟨hd0, hd1⟩ := hD
      go_simp
      exact hK _ _ (Grew.refl _) rfl
    · have hG : Grew W3 wx := (Grew.drew _).trans hR
      exfalso
      simp [Deps, Dep, at_, Is] at hD
      simp_all
    refine ⟨fun a_ wx hR hD => ⟨fun hgd K hK => ?_, fun hgd => ?_⟩, ?_⟩
    · have hG : Grew W3 wx := (Grew.drew _).trans hR
      clear hgd
      simp [Deps, Dep, at_, Is] at hD
      obtain ⟨hd0, hd1⟩ := hD
      have e_ := (HB.out wx hG).2.1
      go_simp
      exact hK _ _ (Grew.refl _) rfl
    · have hG : Grew W3 wx := (Grew.drew _).trans hR
      exfalso
      simp [Deps, Dep, at_, Is] at hD
      simp_all
    refine ⟨fun a_ wx hR hD => ⟨fun hgd K hK => ?_, fun hgd => ?_⟩, ?_⟩
    · have hG : Grew W3 wx := (Grew.drew _).trans hR
      clear hgd
      simp [Deps, Dep, at_, Is] at hD
      obtain ⟨hd0, hd1⟩ := hD
      go_simp
      exact hK _ _ (Grew.refl _) rfl
    · have hG : Grew W3 wx := (Grew.drew _).trans hR
      exfalso
      simp [Deps, Dep, at_, Is] at hD
      simp_all
    refine ⟨fun a_ wx hR hD K hK => ?_, ?_⟩
    · have hG : Grew W3 wx := (Grew.drew _).trans hR
      simp [Deps, Dep, at_, Is] at hD
      obtain ⟨hd0, hd1⟩ := hD
      go_simp
      exact hK _ _ (Grew.refl _) rfl
    refine ⟨fun a_ wx hR hD K hK => ?_, ?_⟩
    · have hG : Grew W3 wx := (Grew.drew _).trans hR
      simp [Deps, Dep, at_, Is] at hD
      go_simp
      exact hK _ _ (Grew.refl _) rfl
    refine ⟨fun a_ wx hR hD => ⟨fun hgd K hK => ?_, fun hgd => ?_⟩, ?_⟩
    · have hG : Grew W3 wx := (Grew.drew _).trans hR
      clear hgd
      simp [Deps, Dep, at_, Is] at hD
      obtain ⟨hd0, hd1⟩ := hD
      go_simp
      exact hK _ _ (Grew.refl _) rfl
    · have hG : Grew W3 wx := (Grew.drew _).trans hR
      exfalso
      simp [Deps, Dep, at_, Is] at hD
      simp_all
    refine ⟨fun a_ wx hR hD => ⟨fun hgd K hK => ?_, fun hgd => ?_⟩, ?_⟩
    · have hG : Grew W3 wx := (Grew.drew _).trans hR
      clear hgd
      simp [Deps, Dep, at_, Is] at hD
      obtain ⟨hd0, hd1⟩ := hD
      have e_ := (HB.out wx hG).2.2
      go_simp
      exact hK _ _ (Grew.refl _) rfl
    · have hG : Grew W3 wx := (Grew.drew _).trans hR
      exfalso
      simp [Deps, Dep, at_, Is] at hD
      simp_all
    refine ⟨fun a_ wx hR hD => ⟨fun hgd K hK => ?_, fun hgd => ?_⟩, ?_⟩
    · have hG : Grew W3 wx := (Grew.drew _).trans hR
      clear hgd
      simp [Deps, Dep, at_, Is] at hD
      obtain ⟨hd0, hd1⟩ := hD
      go_simp
      exact hK _ _ (Grew.refl _) rfl
    · have hG : Grew W3 wx := (Grew.drew _).trans hR
      exfalso
      simp [Deps, Dep, at_, Is] at hD
      simp_all
    refine ⟨fun a_ wx hR hD => ⟨fun hgd K hK => ?_, fun hgd => ?_⟩, ?_⟩
    · have hG : Grew W3 wx := (Grew.drew _).trans hR
      clear hgd
      simp [Deps, Dep, at_, Is] at hD
      obtain ⟨hd0, hd1⟩ := hD
      go_simp
      exact hK _ _ (Grew.refl _) rfl
    · have hG : Grew W3 wx := (Grew.drew _).trans hR
      exfalso
      simp [Deps, Dep, at_, Is] at hD
      simp_all
    refine ⟨fun a_ wx hR hD K hK => ?_, ?_⟩
    · have hG : Grew W3 wx := (Grew.drew _).trans hR
      simp [Deps, Dep, at_, Is] at hD
      obtain ⟨hd0, hd1⟩ := hD
      go_simp
      exact hK _ _ (Grew.refl _) rfl
    refine ⟨fun a_ wx hR hD K hK => ?_, ?_⟩
    · have hG : Grew W3 wx := (Grew.drew _).trans hR
      simp [Deps, Dep, at_, Is] at hD
      go_simp
      exact hK _ _ (Grew.refl _) rfl
    refine ⟨fun a_ wx hR hD => ⟨fun hgd K hK => ?_, fun hgd => ?_⟩, ?_⟩
    · have hG : Grew W3 wx := (Grew.drew _).trans hR
      clear hgd
      simp [Deps, Dep, at_, Is] at hD
      obtain ⟨e0, e1, e2⟩ := HB.out wx hG
      go_simp
      exact hK _ _ (Grew.refl _) rfl
    · have hG : Grew W3 wx := (Grew.drew _).trans hR
      exfalso
      simp [Deps, Dep, at_, Is] at hD
      simp_all
    refine ⟨fun a_ wx hR hD => ⟨fun hgd K hK => ?_, fun hgd => ?_⟩, ?_⟩
    · have hG : Grew W3 wx := (Grew.drew _).trans hR
      clear hgd
      simp [Deps, Dep, at_, Is] at hD
      obtain ⟨hd0, hd1⟩ := hD
      go_simp
      have hcn := HDD.out wx hG
      with_reducible refine hcn.mono ?_
      clear hcn
      rintro e wy ⟨v, rfl, hv, hg⟩
      exact hK _ _ hg hv
    · have hG : Grew W3 wx := (Grew.drew _).trans hR
      exfalso
      simp [Deps, Dep, at_, Is] at hD
      simp_all
    refine ⟨fun a_ wx hR hD => ⟨fun hgd K hK => ?_, fun hgd => ?_⟩, ?_⟩
    · have hG : Grew W3 wx := (Grew.drew _).trans hR
      clear hgd
      simp [Deps, Dep, at_, Is] at hD
      have hmk := print_make (P := Try.prog) 45 5 .u8 1 Try.underlying45 info5 (by decide) 32 (by omega)
      rw [show ((32 : Nat) : Int) = 32 from rfl] at hmk
      go_simp
      obtain ⟨Am, cm, hvm, hnm, hcm, hCm⟩ := own_C (own_made wx wx.heap.size 5 .u8 32 (Nat.le_refl _) (by omega))
      exact hK _ _ (Grew.alloc _ _) ⟨Am, cm, by rw [HL3.out]; exact hvm, by rw [HL3.out]; exact hcm, by rw [HL3.out, HL32.out]; exact hCm⟩
    · have hG : Grew W3 wx := (Grew.drew _).trans hR
      exfalso
      simp [Deps, Dep, at_, Is] at hD
      simp_all
    refine ⟨fun a_ wx hR hD => ⟨fun hgd K hK => ?_, fun hgd => ?_⟩, ?_⟩
    · have hG : Grew W3 wx := (Grew.drew _).trans hR
      clear hgd
      simp [Deps, Dep, at_, Is] at hD
      obtain ⟨⟨A_, c_, hv_, -, hC_⟩, hd1⟩ := hD
      have hcv_ := Kd.C_string (P := Try.prog) (c := c_) Try.underlying45 Try.underlying5 Try.underlying9 hC_
      rw [HL3.out] at hv_ hcv_
      rw [HZ3.out] at hcv_
      clear hC_
      go_simp
      exact hK _ _ (Grew.refl _) rfl
    · have hG : Grew W3 wx := (Grew.drew _).trans hR
      exfalso
      simp [Deps, Dep, at_, Is] at hD
      simp_all
    refine ⟨fun a_ wx hR hD => ⟨fun hgd K hK => ?_, fun hgd => ?_⟩, ?_⟩
    · have hG : Grew W3 wx := (Grew.drew _).trans hR
      clear hgd
      simp [Deps, Dep, at_, Is] at hD
      obtain ⟨hd0, hd1⟩ := hD
      go_simp
      exact hK _ _ (Grew.refl _) rfl
    · have hG : Grew W3 wx := (Grew.drew _).trans hR
      exfalso
      simp [Deps, Dep, at_, Is] at hD
      simp_all
    refine ⟨fun a_ wx hR hD => ⟨fun hgd K hK => ?_, fun hgd => ?_⟩, ?_⟩
    · have hG : Grew W3 wx := (Grew.drew _).trans hR
      clear hgd
      simp [Deps, Dep, at_, Is] at hD
      obtain ⟨hd0, hd1⟩ := hD
      have e_ := (HB.out wx hG).2.2
      go_simp
      exact hK _ _ (Grew.refl _) rfl
    · have hG : Grew W3 wx := (Grew.drew _).trans hR
      exfalso
      simp [Deps, Dep, at_, Is] at hD
      simp_all
    refine ⟨fun a_ wx hR hD => ⟨fun hgd K hK => ?_, fun hgd => ?_⟩, ?_⟩
    · have hG : Grew W3 wx := (Grew.drew _).trans hR
      clear hgd
      simp [Deps, Dep, at_, Is] at hD
      obtain ⟨hd0, hd1⟩ := hD
      go_simp
      exact hK _ _ (Grew.refl _) rfl
    · have hG : Grew W3 wx := (Grew.drew _).trans hR
      exfalso
      simp [Deps, Dep, at_, Is] at hD
      simp_all
    refine ⟨fun a_ wx hR hD => ⟨fun hgd K hK => ?_, fun hgd => ?_⟩, ?_⟩
    · have hG : Grew W3 wx := (Grew.drew _).trans hR
      clear hgd
      simp [Deps, Dep, at_, Is] at hD
      obtain ⟨e0, e1, e2, e3, e4⟩ := HE.out wx hG
      go_simp
      exact hK _ _ (Grew.refl _) rfl
    · have hG : Grew W3 wx := (Grew.drew _).trans hR
      exfalso
      simp [Deps, Dep, at_, Is] at hD
      simp_all
    refine ⟨fun a_ wx hR hD => ⟨fun hgd K hK => ?_, fun hgd => ?_⟩, ?_⟩
    · have hG : Grew W3 wx := (Grew.drew _).trans hR
      clear hgd
      simp [Deps, Dep, at_, Is] at hD
      obtain ⟨hd0, hd1⟩ := hD
      go_simp
      have hcn := HRB.out wx
      with_reducible refine hcn.mono ?_
      clear hcn
      rintro e wy ⟨v, rfl, hv, hg⟩
      exact hK _ _ hg hv
    · have hG : Grew W3 wx := (Grew.drew _).trans hR
      exfalso
      simp [Deps, Dep, at_, Is] at hD
      simp_all
    trivial
  · show EndHold _ _ _ _ _ _ _
    intro v25
    refine end_all (xs := [_, _, _, _, _, _, _, _, _, _, _, _, _, _, _, _, _, _, _, _, _, _]) ⟨rfl, rfl, rfl, rfl, rfl, rfl, rfl, rfl, rfl, rfl, rfl, rfl, rfl, rfl, rfl, rfl, rfl, rfl, rfl, rfl, rfl, rfl, trivial⟩ ?_
    rintro w4 hR1 ⟨-, hMk⟩
    refine ⟨?_⟩
    have hG_w4 : Grew W3 w4 := (Grew.drew _).trans hR1
    clear hR1
    simp only [Act.put, List.setIfInBounds_toArray, List.set_cons_succ, List.set_cons_zero, dropN, putEach]
    go_wp2_with fail
    refine (HSE.out w4).mono ?_
    rintro e w5 ⟨_, rfl, rfl, hg5⟩
    go_wp2_with fail
    go_ret
    exact ⟨_, rfl, rfl, Grew.trans (Grew.trans HGW.out hG_w4) hg5⟩
end Go.Proofs.Ytmifoihfpjomaaa.F

-- AudO
namespace Go.Proofs.Ytmifoihfpjomaaa.F
open Go Go.RowKit Go.Proofs.YtmifoihfpjomaaaW.PrintWords Go.Proofs.YtmifoihfpjomaaaW.PrintLast Go.Proofs.YtmifoihfpjomaaaW.PrintMore Go.Proofs.YtmifoihfpjomaaaM Go.Proofs.YtmifoihfpjomaaaR
attribute [local go_sem] max2_int min2_int max_two min_two
set_option linter.unusedSimpArgs false
set_option linter.unusedVariables false
set_option maxRecDepth 100000
end Go.Proofs.Ytmifoihfpjomaaa.F

-- AudF
namespace Go.Proofs.Ytmifoihfpjomaaa.F
open Go Go.RowKit Go.Proofs.YtmifoihfpjomaaaW.PrintWords Go.Proofs.YtmifoihfpjomaaaW.PrintLast Go.Proofs.YtmifoihfpjomaaaW.PrintMore Go.Proofs.YtmifoihfpjomaaaM Go.Proofs.YtmifoihfpjomaaaR
attribute [local go_sem] max2_int min2_int max_two min_two
set_option linter.unusedSimpArgs false
set_option linter.unusedVariables false
set_option maxRecDepth 100000
theorem tl_iff (x y : ByteArray) : x.toList = y.toList ↔ x = y := ⟨fun h => by rw [ByteArray.toList_eq, ByteArray.toList_eq] at h; exact ByteArray.ext (Array.toList_inj.1 h), fun h => by rw [h]⟩
theorem tl_beq (x y : ByteArray) : (x.toList == y.toList) = true ↔ x = y := by rw [beq_iff_eq, tl_iff]
theorem eqE_iff (x y : En) : (x.f0 == y.f0 && (x.f1 == y.f1 && (x.f2 == y.f2 && (x.f3.toList == y.f3.toList && (x.f4 == y.f4))))) = true ↔ x = y := by
  obtain ⟨x0, x1, x2, x3, x4⟩ := x
  obtain ⟨y0, y1, y2, y3, y4⟩ := y
  simp [tl_iff]
theorem rd_getE {l : List En} {i : Nat} (h : i < l.length) : l[i]? = some (rd_T36 l (i : Int)) := by
  unfold rd_T36
  rw [Int.toNat_natCast, List.getD_eq_getElem?_getD, List.getElem?_eq_getElem h]; rfl
theorem mayL_at {s : Int} {l : List En} (h : mayL s l = true) {i : Nat} {e : En} (he : l[i]? = some e) : e.f0 = s + (i : Int) := by
  induction l generalizing s i with
  | nil => simp at he
  | cons x l ih =>
    simp only [mayL, Bool.and_eq_true, decide_eq_true_eq] at h
    cases i with
    | zero =>
      obtain rfl : x = e := by simpa using he
      simpa using h.2.1
    | succ i =>
      have := ih h.2.2 (by simpa using he)
      rw [this]; push_cast; omega
/-- one audit follows another one -/
def FolP (a : ByteArray) (la : Int) (l : List En) (b : ByteArray) (lb : Int) (m : List En) : Prop :=
  mayP a la l = true ∧ mayP b lb m = true ∧ la ≤ lb ∧
  (∀ (i : Nat) (e : En), l[i]? = some e → lb - (m.length : Int) + 1 ≤ e.f0 → m[(e.f0 - (lb - (m.length : Int) + 1)).toNat]? = some e) ∧
  (lb - (m.length : Int) ≤ la → digP a la l = strOfNums (chainE (bytesOf b) (m.take (la - (lb - (m.length : Int) + 1) + 1).toNat)))
noncomputable def folP (a : ByteArray) (la : Int) (l : List En) (b : ByteArray) (lb : Int) (m : List En) : Bool := @decide (FolP a la l b lb m) (Classical.propDecidable _)
theorem folP_true {a b : ByteArray} {la lb : Int} {l m : List En} (h : FolP a la l b lb m) : folP a la l b lb m = true := @decide_eq_true _ (Classical.propDecidable _) h
theorem folP_false {a b : ByteArray} {la lb : Int} {l m : List En} (h : ¬ FolP a la l b lb m) : folP a la l b lb m = false := @decide_eq_false _ (Classical.propDecidable _) h
set_option maxHeartbeats 8000000 in
theorem follows_c (a : ByteArray) (la : Int) (A : Option Addr) (ca : Nat) (l : List En) (b : ByteArray) (lb : Int) (B : Option Addr) (cb : Nat) (m : List En) (w : World)
    (hA : Kd.C k36 w A l.length l) (hca : l.length ≤ ca) (hB : Kd.C k36 w B m.length m) (hcb : m.length ≤ cb) :
    Calls Try.prog 25 #[.agg #[.string a, .int .i64 la, .slice A l.length ca], .agg #[.string b, .int .i64 lb, .slice B m.length cb]] w (Tells w (Is (.bool (folP a la l b lb m)))) := by
  have HMA := Lib.hid (fun wx (h : Grew w wx) => may_c a la A ca l wx (Kd.C_below hA h) hca)
  have HMB := Lib.hid (fun wx (h : Grew w wx) => may_c b lb B cb m wx (Kd.C_below hB h) hcb)
  have HDG := Lib.hid (fun wx (h : Grew w wx) => digest_c a la A ca l wx (Kd.C_below hA h) hca)
  have HCA := Lib.hid (fun wx (h : Grew w wx) => Kd.C_below hA h)
  have HCB := Lib.hid (fun wx (h : Grew w wx) => Kd.C_below hB h)
  obtain ⟨n, hn⟩ : ∃ n, n = l.length := ⟨_, rfl⟩
  obtain ⟨k, hk⟩ : ∃ k, k = m.length := ⟨_, rfl⟩
  have HN := Lib.hid hn
  have HK := Lib.hid hk
  rw [← hn] at HMA HDG HCA hca ⊢
  rw [← hk] at HMB HCB hcb ⊢
  obtain ⟨R, hR⟩ : ∃ R, R = folP a la l b lb m := ⟨_, rfl⟩
  rw [← hR]
  have HR := Lib.hid hR
  obtain ⟨W0, hW0⟩ : ∃ W0, W0 = (w.alloc (.cells #[.string a, .int .i64 la, .slice A n ca] 27)).alloc (.cells #[.string b, .int .i64 lb, .slice B k cb] 27) := ⟨_, rfl⟩
  obtain ⟨H, hH⟩ : ∃ H, H = w.heap.size := ⟨_, rfl⟩
  have hb0 : Blk W0 H 27 [.string a, .int .i64 la, .slice A n ca] := by rw [hW0, hH]; exact (Blk.new w _ _).grew (Grew.alloc _ _)
  have hb1 : Blk W0 (H + 1) 27 [.string b, .int .i64 lb, .slice B k cb] := by
    rw [hW0, hH]
    have := Blk.new (w.alloc (.cells #[.string a, .int .i64 la, .slice A n ca] 27)) 27 [.string b, .int .i64 lb, .slice B k cb]
    simpa using this
  have hg0 : Grew w W0 := by rw [hW0]; exact (Grew.alloc _ _).trans (Grew.alloc _ _)
  have CB0 := Lib.hid (fun wx (h : Grew W0 wx) => And.intro ((hb0.grew h).at_ 0) (And.intro ((hb0.grew h).at_ 1) ((hb0.grew h).at_ 2)))
  have CB1 := Lib.hid (fun wx (h : Grew W0 wx) => And.intro ((hb1.grew h).at_ 0) (And.intro ((hb1.grew h).at_ 1) ((hb1.grew h).at_ 2)))
  simp only [List.getElem?_cons_zero, List.getElem?_cons_succ] at CB0 CB1
  have HG0 := Lib.hid hg0
  have HWE := Lib.hid hW0
  have HHE := Lib.hid hH
  clear hA hB hn hk hR hb0 hb1 hg0 hW0 hH
  go_enter Try.func25, Try.ntmps25
  go_wp2_with fail
  rw [← HWE.out]
  rw [← HHE.out]
  refine (HMA.out W0 HG0.out).mono ?_
  rintro e w1 ⟨_, rfl, rfl, hg1⟩
  obtain ⟨c0, c1, c2⟩ := CB0.out w1 hg1
  obtain ⟨d0, d1, d2⟩ := CB1.out w1 hg1
  obtain ⟨ma, hma⟩ : ∃ x, x = mayP a la l := ⟨_, rfl⟩
  rw [← hma]
  have HMAE := Lib.hid hma
  clear hma
  cases ma with
  | false =>
    go_wp2_with fail
    go_ret
    exact ⟨_, rfl, by rw [HR.out, folP_false (fun h => by have := h.1; rw [← HMAE.out] at this; cases this)]; rfl, Grew.trans HG0.out hg1⟩
  | true =>
    go_wp2_with fail
    refine (HMB.out w1 (Grew.trans HG0.out hg1)).mono ?_
    rintro e w2 ⟨_, rfl, rfl, hg2⟩
    have hg2' := Grew.trans hg1 hg2
    clear c0 c1 c2 d0 d1 d2
    obtain ⟨c0, c1, c2⟩ := CB0.out w2 hg2'
    obtain ⟨d0, d1, d2⟩ := CB1.out w2 hg2'
    obtain ⟨mb, hmb⟩ : ∃ x, x = mayP b lb m := ⟨_, rfl⟩
    rw [← hmb]
    have HMBE := Lib.hid hmb
    clear hmb
    cases mb with
    | false =>
      go_wp2_with fail
      go_ret
      exact ⟨_, rfl, by rw [HR.out, folP_false (fun h => by have := h.2.1; rw [← HMBE.out] at this; cases this)]; rfl, Grew.trans HG0.out hg2'⟩
    | true =>
      by_cases hab : la ≤ lb
      · have x1 : decide (lb < la) = false := decide_eq_false (by omega)
        have ra := mayR HMAE.out.symm
        have rb := mayR HMBE.out.symm
        have a0 := ra.l0
        have a1 := ra.l1
        have b0 := rb.l0
        have b1 := rb.l1
        have an := ra.len
        have bn := rb.len
        rw [← HN.out] at an
        rw [← HK.out] at bn
        obtain ⟨F, hF⟩ : ∃ F, F = lb - (k : Int) := ⟨_, rfl⟩
        have u1 : IntKind.i64.wrap (lb - (k : Int)) = F := by rw [IntWalk.i64_in _ (by omega)]; omega
        have u2 : IntKind.i64.wrap (F + 1) = F + 1 := IntWalk.i64_in _ (by omega)
        have RA := Lib.hid ra
        have RB := Lib.hid rb
        clear ra rb
        have HEQ := Lib.hid (fun (x y : En) (w' : World) => show (Op.equalIn 10000 36 (.agg #[.int .i64 x.f0, .int .i64 x.f1, .int .i64 x.f2, .string x.f3, .int .i64 x.f4]) (.agg #[.int .i64 y.f0, .int .i64 y.f1, .int .i64 y.f2, .string y.f3, .int .i64 y.f4])).run Try.prog w' = .ok _ w' from eqEnA 9998 w' x.f0 x.f1 x.f2 x.f3 x.f4 y.f0 y.f1 y.f2 y.f3 y.f4)
        have HHF := Lib.hid hF
        have HBN := Lib.hid bn
        have HAN := Lib.hid an
        have HAB := Lib.hid hab
        have HA0 := Lib.hid (And.intro a0 (And.intro a1 (And.intro b0 b1)))
        have n8 : n ≤ 8 := by omega
        have k8 : k ≤ 8 := by omega
        clear hF an bn hab a0 a1 b0 b1
        go_wp2_with fail
        clear c0 c1 c2 d0 d1 d2 u1 u2
        go_loopw [33] (fun iv wr => ∃ i : Nat, iv = .int .i64 (i : Int) ∧ i ≤ n ∧ (∀ (j : Nat) (e : En), j < i → l[j]? = some e → F + 1 ≤ e.f0 → m[(e.f0 - (F + 1)).toNat]? = some e) ∧ Grew W0 wr) (fun iv _ => n - (intOf iv).toNat)
        case atStart => exact ⟨0, rfl, Nat.zero_le _, fun j e hj => absurd hj (Nat.not_lt_zero _), hg2'⟩
        case round =>
          obtain ⟨i, rfl, hi, hag, hgr⟩ := hrel
          have HGR := Lib.hid hgr
          have HAG := Lib.hid hag
          clear hg2' hg2 hg1 hgr hag
          by_cases hlt : i < n
          · have d1 : decide ((i : Int) < (n : Int)) = true := decide_eq_true (by omega)
            have d2 : decide (i < n) = true := decide_eq_true hlt
            have i1 : (i : Int) < (n : Int) := by omega
            obtain ⟨ad1, rfl, a0, a1, a2, a3, a4⟩ := at_T36 (HCA.out wr (Grew.trans HG0.out HGR.out)) (i : Int) (by omega) i1
            obtain ⟨e, he⟩ : ∃ e, e = rd_T36 l (i : Int) := ⟨_, rfl⟩
            have hei : l[i]? = some e := by rw [he]; exact rd_getE (by rw [← HN.out]; exact hlt)
            have hes := mayL_at RA.out.seq hei
            rw [← HN.out] at hes
            rw [Int.toNat_natCast, ← he] at a0 a1 a2 a3 a4
            obtain ⟨W7, hW7⟩ : ∃ W7, W7 = wr.alloc (.cells #[.int .i64 e.f0, .int .i64 e.f1, .int .i64 e.f2, .string e.f3, .int .i64 e.f4] 36) := ⟨_, rfl⟩
            obtain ⟨g7, hg7⟩ : ∃ g7, g7 = wr.heap.size := ⟨_, rfl⟩
            have hb7 : Blk W7 g7 36 [.int .i64 e.f0, .int .i64 e.f1, .int .i64 e.f2, .string e.f3, .int .i64 e.f4] := by rw [hW7, hg7]; exact Blk.new _ _ _
            have hgr7 : Grew wr W7 := by rw [hW7]; exact Grew.alloc _ _
            have H7 := Lib.hid (fun wx (h : Grew W7 wx) => And.intro ((hb7.grew h).at_ 0) (And.intro ((hb7.grew h).at_ 1) (And.intro ((hb7.grew h).at_ 2) (And.intro ((hb7.grew h).at_ 3) ((hb7.grew h).at_ 4)))))
            simp only [List.getElem?_cons_zero, List.getElem?_cons_succ] at H7
            have HG7 := Lib.hid (Grew.trans HGR.out hgr7)
            have HW7 := Lib.hid hW7
            have HE7 := Lib.hid hg7
            have HEI := Lib.hid hei
            have HES := Lib.hid hes
            have hW7' := hW7
            clear he hei hes hb7 hgr7 hW7 hg7
            go_wp2_with fail
            rw [← HW7.out]
            rw [← HE7.out]
            clear a0 a1 a2 a3 a4 hW7'
            by_cases hf : F + 1 ≤ e.f0
            · obtain ⟨j, hj⟩ : ∃ j : Nat, e.f0 - (F + 1) = (j : Int) := ⟨(e.f0 - (F + 1)).toNat, by omega⟩
              have hjk : j < k := by
                have h1 := HES.out; have h2 := HHF.out; have h3 := HAB.out
                omega
              have u3 : IntKind.i64.wrap (e.f0 - (F + 1)) = (j : Int) := by rw [IntWalk.i64_in _ (by omega)]; exact hj
              have u7 : IntKind.i64.wrap (j : Int) = (j : Int) := IntWalk.i64_in _ (by omega)
              have i2 : (j : Int) < (k : Int) := by omega
              have y1 : decide (F + 1 ≤ e.f0) = true := decide_eq_true hf
              obtain ⟨ad2, rfl, b0, b1, b2, b3, b4⟩ := at_T36 (HCB.out W7 (Grew.trans HG0.out HG7.out)) (j : Int) (by omega) i2
              obtain ⟨y, hy⟩ : ∃ y, y = rd_T36 m (j : Int) := ⟨_, rfl⟩
              have hyj : m[j]? = some y := by rw [hy]; exact rd_getE (by rw [← HK.out]; exact hjk)
              rw [Int.toNat_natCast, ← hy] at b0 b1 b2 b3 b4
              have HBC := Lib.hid (fun wx (h : Grew W7 wx) => And.intro (pw_cell_below h b0) (And.intro (pw_cell_below h b1) (And.intro (pw_cell_below h b2) (And.intro (pw_cell_below h b3) (pw_cell_below h b4)))))
              have heq := HEQ.out y e
              have hiff := eqE_iff y e
              obtain ⟨E, hE⟩ : ∃ E, E = (y.f0 == e.f0 && (y.f1 == e.f1 && (y.f2 == e.f2 && (y.f3.toList == e.f3.toList && (y.f4 == e.f4))))) := ⟨_, rfl⟩
              rw [← hE] at heq hiff
              have HEE := Lib.hid heq
              have HIF := Lib.hid hiff
              have HYJ := Lib.hid hyj
              have HJ := Lib.hid hj
              have HF' := Lib.hid hf
              clear hy hyj b0 b1 b2 b3 b4 heq hiff hE hj hf
              apply region_grew [Is _, Is _, Is _, Is _, Is _, Is _, Is _, Is _, Is _, Is _, Is _, Is _, Is _, Is _] [([(7, none)], none), ([(37, some 0)], none), ([(5, none)], none), ([(38, some 1), (39, some 2)], none), ([(40, some 3)], none), ([(3, none), (41, some 4)], some (41, true)), ([(42, some 5), (41, some 4)], some (41, true)), ([(7, none), (41, some 4)], some (41, true)), ([(44, some 7), (41, some 4)], some (41, true)), ([(5, none), (41, some 4)], some (41, true)), ([(45, some 8), (46, some 9), (41, some 4)], some (41, true)), ([(43, some 6), (47, some 10), (41, some 4)], some (41, true)), ([(48, some 11), (41, some 4)], some (41, true)), ([(7, none), (41, some 4)], some (41, true))] [(37, 0), (38, 1), (39, 2), (40, 3), (41, 4), (42, 5), (43, 6), (44, 7), (45, 8), (46, 9), (47, 10), (48, 11), (49, 12), (50, 13)] rfl (by kernel_rfl) (by kernel_rfl) (show Stable Grew _ from ⟨Is.stable _, Is.stable _, Is.stable _, Is.stable _, Is.stable _, Is.stable _, Is.stable _, Is.stable _, Is.stable _, Is.stable _, Is.stable _, Is.stable _, Is.stable _, Is.stable _, trivial⟩)
              · show OpsHold _ _ _ _ _ _ _ _ _
                refine ⟨fun a_ wx hR hD K hK => ?_, ?_⟩
                · have hG : Grew W7 wx := (Grew.drew _).trans hR
                  simp [Deps, Dep, at_, Is] at hD
                  go_simp
                  exact hK _ _ (Grew.refl _) rfl
                refine ⟨fun a_ wx hR hD K hK => ?_, ?_⟩
                · have hG : Grew W7 wx := (Grew.drew _).trans hR
                  simp [Deps, Dep, at_, Is] at hD
                  obtain ⟨e0, e1, e2, e3, e4⟩ := H7.out wx hG
                  go_simp
                  exact hK _ _ (Grew.refl _) rfl
                refine ⟨fun a_ wx hR hD K hK => ?_, ?_⟩
                · have hG : Grew W7 wx := (Grew.drew _).trans hR
                  simp [Deps, Dep, at_, Is] at hD
                  go_simp
                  exact hK _ _ (Grew.refl _) rfl
                refine ⟨fun a_ wx hR hD K hK => ?_, ?_⟩
                · have hG : Grew W7 wx := (Grew.drew _).trans hR
                  simp [Deps, Dep, at_, Is] at hD
                  obtain ⟨hd0, hd1⟩ := hD
                  go_simp
                  exact hK _ _ (Grew.refl _) rfl
                refine ⟨fun a_ wx hR hD K hK => ?_, ?_⟩
                · have hG : Grew W7 wx := (Grew.drew _).trans hR
                  simp [Deps, Dep, at_, Is] at hD
                  go_simp
                  exact hK _ _ (Grew.refl _) rfl
                refine ⟨fun a_ wx hR hD => ⟨fun hgd K hK => ?_, fun hgd => ?_⟩, ?_⟩
                · have hG : Grew W7 wx := (Grew.drew _).trans hR
                  clear hgd
                  simp [Deps, Dep, at_, Is] at hD
                  obtain ⟨hd0, hd1⟩ := hD
                  go_simp
                  exact hK _ _ (Grew.refl _) rfl
                · have hG : Grew W7 wx := (Grew.drew _).trans hR
                  exfalso
                  simp [Deps, Dep, at_, Is] at hD
                  simp_all
                refine ⟨fun a_ wx hR hD => ⟨fun hgd K hK => ?_, fun hgd => ?_⟩, ?_⟩
                · have hG : Grew W7 wx := (Grew.drew _).trans hR
                  clear hgd
                  simp [Deps, Dep, at_, Is] at hD
                  obtain ⟨hd0, hd1⟩ := hD
                  obtain ⟨e0, e1, e2⟩ := CB1.out wx (Grew.trans HG7.out hG)
                  go_simp
                  exact hK _ _ (Grew.refl _) rfl
                · have hG : Grew W7 wx := (Grew.drew _).trans hR
                  exfalso
                  simp [Deps, Dep, at_, Is] at hD
                  simp_all
                refine ⟨fun a_ wx hR hD => ⟨fun hgd K hK => ?_, fun hgd => ?_⟩, ?_⟩
                · have hG : Grew W7 wx := (Grew.drew _).trans hR
                  clear hgd
                  simp [Deps, Dep, at_, Is] at hD
                  obtain ⟨hd0, hd1⟩ := hD
                  go_simp
                  exact hK _ _ (Grew.refl _) rfl
                · have hG : Grew W7 wx := (Grew.drew _).trans hR
                  exfalso
                  simp [Deps, Dep, at_, Is] at hD
                  simp_all
                refine ⟨fun a_ wx hR hD => ⟨fun hgd K hK => ?_, fun hgd => ?_⟩, ?_⟩
                · have hG : Grew W7 wx := (Grew.drew _).trans hR
                  clear hgd
                  simp [Deps, Dep, at_, Is] at hD
                  obtain ⟨hd0, hd1⟩ := hD
                  obtain ⟨e0, e1, e2, e3, e4⟩ := H7.out wx hG
                  go_simp
                  exact hK _ _ (Grew.refl _) rfl
                · have hG : Grew W7 wx := (Grew.drew _).trans hR
                  exfalso
                  simp [Deps, Dep, at_, Is] at hD
                  simp_all
                refine ⟨fun a_ wx hR hD => ⟨fun hgd K hK => ?_, fun hgd => ?_⟩, ?_⟩
                · have hG : Grew W7 wx := (Grew.drew _).trans hR
                  clear hgd
                  simp [Deps, Dep, at_, Is] at hD
                  obtain ⟨hd0, hd1⟩ := hD
                  go_simp
                  exact hK _ _ (Grew.refl _) rfl
                · have hG : Grew W7 wx := (Grew.drew _).trans hR
                  exfalso
                  simp [Deps, Dep, at_, Is] at hD
                  simp_all
                refine ⟨fun a_ wx hR hD => ⟨fun hgd K hK => ?_, fun hgd => ?_⟩, ?_⟩
                · have hG : Grew W7 wx := (Grew.drew _).trans hR
                  clear hgd
                  simp [Deps, Dep, at_, Is] at hD
                  obtain ⟨hd0, hd1, hd2⟩ := hD
                  go_simp
                  exact hK _ _ (Grew.refl _) rfl
                · have hG : Grew W7 wx := (Grew.drew _).trans hR
                  exfalso
                  simp [Deps, Dep, at_, Is] at hD
                  simp_all
                refine ⟨fun a_ wx hR hD => ⟨fun hgd K hK => ?_, fun hgd => ?_⟩, ?_⟩
                · have hG : Grew W7 wx := (Grew.drew _).trans hR
                  clear hgd
                  simp [Deps, Dep, at_, Is] at hD
                  obtain ⟨hd0, hd1, hd2⟩ := hD
                  go_simp
                  exact hK _ _ (Grew.refl _) rfl
                · have hG : Grew W7 wx := (Grew.drew _).trans hR
                  exfalso
                  simp [Deps, Dep, at_, Is] at hD
                  simp_all
                refine ⟨fun a_ wx hR hD => ⟨fun hgd K hK => ?_, fun hgd => ?_⟩, ?_⟩
                · have hG : Grew W7 wx := (Grew.drew _).trans hR
                  clear hgd
                  simp [Deps, Dep, at_, Is] at hD
                  obtain ⟨hd0, hd1⟩ := hD
                  obtain ⟨e0, e1, e2, e3, e4⟩ := HBC.out wx hG
                  go_simp
                  exact hK _ _ (Grew.refl _) rfl
                · have hG : Grew W7 wx := (Grew.drew _).trans hR
                  exfalso
                  simp [Deps, Dep, at_, Is] at hD
                  simp_all
                refine ⟨fun a_ wx hR hD => ⟨fun hgd K hK => ?_, fun hgd => ?_⟩, ?_⟩
                · have hG : Grew W7 wx := (Grew.drew _).trans hR
                  clear hgd
                  simp [Deps, Dep, at_, Is] at hD
                  obtain ⟨hd0, hd1⟩ := hD
                  obtain ⟨e0, e1, e2, e3, e4⟩ := H7.out wx hG
                  go_simp
                  exact hK _ _ (Grew.refl _) rfl
                · have hG : Grew W7 wx := (Grew.drew _).trans hR
                  exfalso
                  simp [Deps, Dep, at_, Is] at hD
                  simp_all
                trivial
              · show EndHold _ _ _ _ _ _ _
                refine end_all (xs := [_, _, _, _, _, _, _, _, _, _, _, _, _, _]) ⟨rfl, rfl, rfl, rfl, rfl, rfl, rfl, rfl, rfl, rfl, rfl, rfl, rfl, rfl, trivial⟩ ?_
                rintro w8 hR1 -
                refine ⟨?_⟩
                have hG_w8 : Grew W7 w8 := (Grew.drew _).trans hR1
                clear hR1
                simp only [Act.put, List.setIfInBounds_toArray, List.set_cons_succ, List.set_cons_zero, dropN, putEach]
                cases E with
                | true =>
                  have e_ := HEE.out
                  go_wp2_with fail
                  clear e_
                  go_roundw
                  case rel => exact ⟨i + 1, by go_num, by omega, fun j' e' hj' he' hf' => by
                    rcases Nat.lt_or_ge j' i with h | h
                    · exact HAG.out j' e' h he' hf'
                    · obtain rfl : j' = i := by omega
                      rw [HEI.out] at he'
                      obtain rfl := Option.some.inj he'
                      rw [HJ.out, Int.toNat_natCast, HYJ.out, HIF.out.1 rfl], Grew.trans HG7.out hG_w8⟩
                  case measure => simp [intOf]; omega
                | false =>
                  have hno : ¬ FolP a la l b lb m := fun h => by
                    have h4 := h.2.2.2.1 i e HEI.out (by rw [← HK.out, ← HHF.out]; exact HF'.out)
                    rw [← HK.out, ← HHF.out, HJ.out, Int.toNat_natCast, HYJ.out] at h4
                    have := HIF.out.2 (Option.some.inj h4)
                    cases this
                  have HR0 := Lib.hid (HR.out.trans (folP_false hno))
                  clear hno
                  have e_ := HEE.out
                  go_wp2_with fail
                  go_ret
                  exact ⟨_, rfl, by rw [HR0.out]; rfl, Grew.trans HG0.out (Grew.trans HG7.out hG_w8)⟩
            · have y1 : decide (F + 1 ≤ e.f0) = false := decide_eq_false hf
              have HF' := Lib.hid hf
              clear hf
              apply region_grew [Is _, Is _, Is _, Is _, Is _, Is undef, Is undef, Is undef, Is undef, Is undef, Is undef, Is undef, Is undef, Is undef] [([(7, none)], none), ([(37, some 0)], none), ([(5, none)], none), ([(38, some 1), (39, some 2)], none), ([(40, some 3)], none), ([(3, none), (41, some 4)], some (41, true)), ([(42, some 5), (41, some 4)], some (41, true)), ([(7, none), (41, some 4)], some (41, true)), ([(44, some 7), (41, some 4)], some (41, true)), ([(5, none), (41, some 4)], some (41, true)), ([(45, some 8), (46, some 9), (41, some 4)], some (41, true)), ([(43, some 6), (47, some 10), (41, some 4)], some (41, true)), ([(48, some 11), (41, some 4)], some (41, true)), ([(7, none), (41, some 4)], some (41, true))] [(37, 0), (38, 1), (39, 2), (40, 3), (41, 4), (42, 5), (43, 6), (44, 7), (45, 8), (46, 9), (47, 10), (48, 11), (49, 12), (50, 13)] rfl (by kernel_rfl) (by kernel_rfl) (show Stable Grew _ from ⟨Is.stable _, Is.stable _, Is.stable _, Is.stable _, Is.stable _, Is.stable _, Is.stable _, Is.stable _, Is.stable _, Is.stable _, Is.stable _, Is.stable _, Is.stable _, Is.stable _, trivial⟩)
              · show OpsHold _ _ _ _ _ _ _ _ _
                refine ⟨fun a_ wx hR hD K hK => ?_, ?_⟩
                · have hG : Grew W7 wx := (Grew.drew _).trans hR
                  simp [Deps, Dep, at_, Is] at hD
                  go_simp
                  exact hK _ _ (Grew.refl _) rfl
                refine ⟨fun a_ wx hR hD K hK => ?_, ?_⟩
                · have hG : Grew W7 wx := (Grew.drew _).trans hR
                  simp [Deps, Dep, at_, Is] at hD
                  obtain ⟨e0, e1, e2, e3, e4⟩ := H7.out wx hG
                  go_simp
                  exact hK _ _ (Grew.refl _) rfl
                refine ⟨fun a_ wx hR hD K hK => ?_, ?_⟩
                · have hG : Grew W7 wx := (Grew.drew _).trans hR
                  simp [Deps, Dep, at_, Is] at hD
                  go_simp
                  exact hK _ _ (Grew.refl _) rfl
                refine ⟨fun a_ wx hR hD K hK => ?_, ?_⟩
                · have hG : Grew W7 wx := (Grew.drew _).trans hR
                  simp [Deps, Dep, at_, Is] at hD
                  obtain ⟨hd0, hd1⟩ := hD
                  go_simp
                  exact hK _ _ (Grew.refl _) rfl
                refine ⟨fun a_ wx hR hD K hK => ?_, ?_⟩
                · have hG : Grew W7 wx := (Grew.drew _).trans hR
                  simp [Deps, Dep, at_, Is] at hD
                  go_simp
                  exact hK _ _ (Grew.refl _) rfl
                refine ⟨fun a_ wx hR hD => ⟨fun hgd K hK => ?_, fun hgd => ?_⟩, ?_⟩
                · have hG : Grew W7 wx := (Grew.drew _).trans hR
                  exfalso
                  simp [Deps, Dep, at_, Is] at hD
                  simp_all
                · exact rfl
                refine ⟨fun a_ wx hR hD => ⟨fun hgd K hK => ?_, fun hgd => ?_⟩, ?_⟩
                · have hG : Grew W7 wx := (Grew.drew _).trans hR
                  exfalso
                  simp [Deps, Dep, at_, Is] at hD
                  simp_all
                · exact rfl
                refine ⟨fun a_ wx hR hD => ⟨fun hgd K hK => ?_, fun hgd => ?_⟩, ?_⟩
                · have hG : Grew W7 wx := (Grew.drew _).trans hR
                  exfalso
                  simp [Deps, Dep, at_, Is] at hD
                  simp_all
                · exact rfl
                refine ⟨fun a_ wx hR hD => ⟨fun hgd K hK => ?_, fun hgd => ?_⟩, ?_⟩
                · have hG : Grew W7 wx := (Grew.drew _).trans hR
                  exfalso
                  simp [Deps, Dep, at_, Is] at hD
                  simp_all
                · exact rfl
                refine ⟨fun a_ wx hR hD => ⟨fun hgd K hK => ?_, fun hgd => ?_⟩, ?_⟩
                · have hG : Grew W7 wx := (Grew.drew _).trans hR
                  exfalso
                  simp [Deps, Dep, at_, Is] at hD
                  simp_all
                · exact rfl
                refine ⟨fun a_ wx hR hD => ⟨fun hgd K hK => ?_, fun hgd => ?_⟩, ?_⟩
                · have hG : Grew W7 wx := (Grew.drew _).trans hR
                  exfalso
                  simp [Deps, Dep, at_, Is] at hD
                  simp_all
                · exact rfl
                refine ⟨fun a_ wx hR hD => ⟨fun hgd K hK => ?_, fun hgd => ?_⟩, ?_⟩
                · have hG : Grew W7 wx := (Grew.drew _).trans hR
                  exfalso
                  simp [Deps, Dep, at_, Is] at hD
                  simp_all
                · exact rfl
                refine ⟨fun a_ wx hR hD => ⟨fun hgd K hK => ?_, fun hgd => ?_⟩, ?_⟩
                · have hG : Grew W7 wx := (Grew.drew _).trans hR
                  exfalso
                  simp [Deps, Dep, at_, Is] at hD
                  simp_all
                · exact rfl
                refine ⟨fun a_ wx hR hD => ⟨fun hgd K hK => ?_, fun hgd => ?_⟩, ?_⟩
                · have hG : Grew W7 wx := (Grew.drew _).trans hR
                  exfalso
                  simp [Deps, Dep, at_, Is] at hD
                  simp_all
                · exact rfl
                trivial
              · show EndHold _ _ _ _ _ _ _
                refine end_all (xs := [_, _, _, _, _, _, _, _, _, _, _, _, _, _]) ⟨rfl, rfl, rfl, rfl, rfl, rfl, rfl, rfl, rfl, rfl, rfl, rfl, rfl, rfl, trivial⟩ ?_
                rintro w8 hR1 -
                refine ⟨?_⟩
                have hG_w8 : Grew W7 w8 := (Grew.drew _).trans hR1
                clear hR1
                simp only [Act.put, List.setIfInBounds_toArray, List.set_cons_succ, List.set_cons_zero, dropN, putEach]
                go_wp2_with fail
                go_roundw
                case rel => exact ⟨i + 1, by go_num, by omega, fun j e' hj he' hf' => by
                  rcases Nat.lt_or_ge j i with h | h
                  · exact HAG.out j e' h he' hf'
                  · obtain rfl : j = i := by omega
                    rw [HEI.out] at he'
                    obtain rfl := Option.some.inj he'
                    exact absurd hf' HF'.out, Grew.trans HG7.out hG_w8⟩
                case measure => simp [intOf]; omega
          · obtain rfl : n = i := by omega
            have d1 : decide ((n : Int) < (n : Int)) = false := decide_eq_false (by omega)
            have d2 : decide (n < n) = false := decide_eq_false (by omega)
            obtain ⟨c0, c1, c2⟩ := CB0.out wr HGR.out
            have u5 : IntKind.i64.wrap (F + 1 - 1) = F := by have h1 := HA0.out; have h2 := HHF.out; have h3 := HBN.out; rw [IntWalk.i64_in _ (by omega)]; omega
            have u6 : IntKind.i64.wrap F = F := by have h1 := HA0.out; have h2 := HHF.out; have h3 := HBN.out; exact IntWalk.i64_in _ (by omega)
            by_cases hlf : la < F
            · have y1 : decide (la < F) = true := decide_eq_true hlf
              have hyes : FolP a la l b lb m := by
                have h2 := HHF.out
                refine ⟨HMAE.out.symm, HMBE.out.symm, HAB.out, fun j e hj hf => ?_, fun h => ?_⟩
                · rw [← HK.out, ← h2] at hf ⊢
                  exact HAG.out j e (by rw [HN.out]; exact (List.getElem?_eq_some_iff.1 hj).1) hj hf
                · rw [← HK.out, ← h2] at h; omega
              have HR0 := Lib.hid (HR.out.trans (folP_true hyes))
              clear hyes
              go_wp2_with fail
              go_ret
              exact ⟨_, rfl, by rw [HR0.out]; rfl, Grew.trans HG0.out HGR.out⟩
            · have y1 : decide (la < F) = false := decide_eq_false hlf
              go_wp2_with fail
              clear c0 c1 c2
              obtain ⟨q, hq⟩ : ∃ q : Nat, la - F = (q : Int) := ⟨(la - F).toNat, by omega⟩
              have h1 := HA0.out
              have h2 := HHF.out
              have h3 := HAB.out
              have hqk : q ≤ k := by omega
              have v1 : IntKind.i64.wrap (la - (F + 1)) = (q : Int) - 1 := by rw [IntWalk.i64_in _ (by omega)]; omega
              have v2 : IntKind.i64.wrap ((q : Int) - 1 + 1) = (q : Int) := by rw [IntWalk.i64_in _ (by omega)]; omega
              have v3 : (q : Int) - 1 + 1 = (q : Int) := by omega
              have v4 : IntKind.i64.wrap (q : Int) = (q : Int) := IntWalk.i64_in _ (by omega)
              have i3 : (q : Int) ≤ (cb : Int) := by omega
              have n3 : q ≤ cb := by omega
              have HCH := Lib.hid (fun wx (h : Grew w wx) => achain_c wx (bytesOf b) B q cb (m.take q) (C_takeE (HCB.out wx h) hqk) (by rw [List.length_take, ← HK.out]; omega) n3 (by omega) (bytesOf_bytes _) (by rw [bytesOf_length, RB.out.sz]; omega) (fun e he => RB.out.good e (List.mem_of_mem_take he)))
              rw [str_bytes] at HCH
              obtain ⟨D, hD⟩ : ∃ D, D = digP a la l := ⟨_, rfl⟩
              obtain ⟨C2, hC2⟩ : ∃ C2, C2 = strOfNums (chainE (bytesOf b) (m.take q)) := ⟨_, rfl⟩
              rw [← hD] at HDG
              rw [← hC2] at HCH
              have HDE := Lib.hid hD
              have HCE := Lib.hid hC2
              have HQ := Lib.hid hq
              have HLF := Lib.hid hlf
              clear hD hC2 hq h1 h2 h3 hlf y1 u5 u6
              apply region_grew [Is _, Is _, Is _, Is _, Is _, Is _, Is _, Is _, Is _, Is _, Is _, Is _] [([(2, none)], none), ([(59, some 0)], none), ([(3, none)], none), ([(61, some 2)], none), ([(3, none)], none), ([(63, some 4)], none), ([(2, none)], none), ([(65, some 6)], none), ([(5, none)], none), ([(66, some 7), (67, some 8)], none), ([(68, some 9)], none), ([(64, some 5), (69, some 10)], none)] [(59, 0), (60, 1), (61, 2), (62, 3), (63, 4), (64, 5), (65, 6), (66, 7), (67, 8), (68, 9), (69, 10), (70, 11)] rfl (by kernel_rfl) (by kernel_rfl) (show Stable Grew _ from ⟨Is.stable _, Is.stable _, Is.stable _, Is.stable _, Is.stable _, Is.stable _, Is.stable _, Is.stable _, Is.stable _, Is.stable _, Is.stable _, Is.stable _, trivial⟩)
              · show OpsHold _ _ _ _ _ _ _ _ _
                refine ⟨fun a_ wx hR hD K hK => ?_, ?_⟩
                · have hG : Grew wr wx := (Grew.drew _).trans hR
                  simp [Deps, Dep, at_, Is] at hD
                  obtain ⟨e0, e1, e2⟩ := CB0.out wx (Grew.trans HGR.out hG)
                  go_simp
                  exact hK _ _ (Grew.refl _) rfl
                refine ⟨fun a_ wx hR hD K hK => ?_, ?_⟩
                · have hG : Grew wr wx := (Grew.drew _).trans hR
                  simp [Deps, Dep, at_, Is] at hD
                  go_simp
                  have hcn := HDG.out wx (Grew.trans HG0.out (Grew.trans HGR.out hG))
                  with_reducible refine hcn.mono ?_
                  clear hcn
                  rintro e wy ⟨v, rfl, hv, hg⟩
                  exact hK _ _ hg hv
                refine ⟨fun a_ wx hR hD K hK => ?_, ?_⟩
                · have hG : Grew wr wx := (Grew.drew _).trans hR
                  simp [Deps, Dep, at_, Is] at hD
                  go_simp
                  exact hK _ _ (Grew.refl _) rfl
                refine ⟨fun a_ wx hR hD K hK => ?_, ?_⟩
                · have hG : Grew wr wx := (Grew.drew _).trans hR
                  simp [Deps, Dep, at_, Is] at hD
                  obtain ⟨e0, e1, e2⟩ := CB1.out wx (Grew.trans HGR.out hG)
                  go_simp
                  exact hK _ _ (Grew.refl _) rfl
                refine ⟨fun a_ wx hR hD K hK => ?_, ?_⟩
                · have hG : Grew wr wx := (Grew.drew _).trans hR
                  simp [Deps, Dep, at_, Is] at hD
                  go_simp
                  exact hK _ _ (Grew.refl _) rfl
                refine ⟨fun a_ wx hR hD K hK => ?_, ?_⟩
                · have hG : Grew wr wx := (Grew.drew _).trans hR
                  simp [Deps, Dep, at_, Is] at hD
                  obtain ⟨e0, e1, e2⟩ := CB1.out wx (Grew.trans HGR.out hG)
                  go_simp
                  exact hK _ _ (Grew.refl _) rfl
                refine ⟨fun a_ wx hR hD K hK => ?_, ?_⟩
                · have hG : Grew wr wx := (Grew.drew _).trans hR
                  simp [Deps, Dep, at_, Is] at hD
                  go_simp
                  exact hK _ _ (Grew.refl _) rfl
                refine ⟨fun a_ wx hR hD K hK => ?_, ?_⟩
                · have hG : Grew wr wx := (Grew.drew _).trans hR
                  simp [Deps, Dep, at_, Is] at hD
                  obtain ⟨e0, e1, e2⟩ := CB0.out wx (Grew.trans HGR.out hG)
                  go_simp
                  exact hK _ _ (Grew.refl _) rfl
                refine ⟨fun a_ wx hR hD K hK => ?_, ?_⟩
                · have hG : Grew wr wx := (Grew.drew _).trans hR
                  simp [Deps, Dep, at_, Is] at hD
                  go_simp
                  exact hK _ _ (Grew.refl _) rfl
                refine ⟨fun a_ wx hR hD K hK => ?_, ?_⟩
                · have hG : Grew wr wx := (Grew.drew _).trans hR
                  simp [Deps, Dep, at_, Is] at hD
                  obtain ⟨hd0, hd1⟩ := hD
                  go_simp
                  exact hK _ _ (Grew.refl _) rfl
                refine ⟨fun a_ wx hR hD K hK => ?_, ?_⟩
                · have hG : Grew wr wx := (Grew.drew _).trans hR
                  simp [Deps, Dep, at_, Is] at hD
                  go_simp
                  exact hK _ _ (Grew.refl _) rfl
                refine ⟨fun a_ wx hR hD K hK => ?_, ?_⟩
                · have hG : Grew wr wx := (Grew.drew _).trans hR
                  simp [Deps, Dep, at_, Is] at hD
                  obtain ⟨hd0, hd1⟩ := hD
                  go_simp
                  exact hK _ _ (Grew.refl _) rfl
                trivial
              · show EndHold _ _ _ _ _ _ _
                refine end_all (xs := [_, _, _, _, _, _, _, _, _, _, _, _]) ⟨rfl, rfl, rfl, rfl, rfl, rfl, rfl, rfl, rfl, rfl, rfl, rfl, trivial⟩ ?_
                rintro w9 hR1 -
                refine ⟨?_⟩
                have hG_w9 : Grew wr w9 := (Grew.drew _).trans hR1
                clear hR1
                simp only [Act.put, List.setIfInBounds_toArray, List.set_cons_succ, List.set_cons_zero, dropN, putEach]
                go_wp2_with fail
                refine (HCH.out w9 (Grew.trans HG0.out (Grew.trans HGR.out hG_w9))).mono ?_
                rintro e w10 ⟨_, rfl, rfl, hg10⟩
                go_wp2_with fail
                go_ret
                have hfin : (D.toList == C2.toList) = R := by
                  have h2 := HHF.out
                  by_cases hDC : D = C2
                  · rw [(tl_beq D C2).2 hDC, HR.out, folP_true]
                    refine ⟨HMAE.out.symm, HMBE.out.symm, HAB.out, fun j e hj hf => ?_, fun h => ?_⟩
                    · rw [← HK.out, ← h2] at hf ⊢
                      exact HAG.out j e (by rw [HN.out]; exact (List.getElem?_eq_some_iff.1 hj).1) hj hf
                    · rw [← HK.out, ← h2, show la - (F + 1) + 1 = (q : Int) from by have := HQ.out; omega, Int.toNat_natCast, ← HDE.out, ← HCE.out]
                      exact hDC
                  · have hno : ¬ FolP a la l b lb m := fun h => by
                      have h5 := h.2.2.2.2 (by rw [← HK.out, ← h2]; have := HLF.out; omega)
                      rw [← HK.out, ← h2, show la - (F + 1) + 1 = (q : Int) from by have := HQ.out; omega, Int.toNat_natCast, ← HDE.out, ← HCE.out] at h5
                      exact hDC h5
                    rw [HR.out, folP_false hno]
                    cases hx : (D.toList == C2.toList) with
                    | false => rfl
                    | true => exact absurd ((tl_beq D C2).1 hx) hDC
                exact ⟨_, rfl, by show Value.bool _ = Value.bool R; rw [hfin], Grew.trans HG0.out (Grew.trans HGR.out (Grew.trans hG_w9 hg10))⟩
      · have x1 : decide (lb < la) = true := decide_eq_true (by omega)
        go_wp2_with fail
        go_ret
        exact ⟨_, rfl, by rw [HR.out, folP_false (fun h => by have := h.2.2.1; omega)]; rfl, Grew.trans HG0.out hg2'⟩
end Go.Proofs.Ytmifoihfpjomaaa.F

-- AudR
namespace Go.Proofs.Ytmifoihfpjomaaa.F
open Go Go.RowKit Go.Proofs.YtmifoihfpjomaaaW.PrintWords Go.Proofs.YtmifoihfpjomaaaW.PrintLast Go.Proofs.YtmifoihfpjomaaaW.PrintMore Go.Proofs.YtmifoihfpjomaaaM Go.Proofs.YtmifoihfpjomaaaR
attribute [local go_sem] max2_int min2_int max_two min_two
set_option linter.unusedSimpArgs false
set_option linter.unusedVariables false
set_option maxRecDepth 100000
end Go.Proofs.Ytmifoihfpjomaaa.F

-- AudP
namespace Go.Proofs.Ytmifoihfpjomaaa.F
open Go Go.RowKit Go.Proofs.YtmifoihfpjomaaaW.PrintWords Go.Proofs.YtmifoihfpjomaaaW.PrintLast Go.Proofs.YtmifoihfpjomaaaW.PrintMore Go.Proofs.YtmifoihfpjomaaaM Go.Proofs.YtmifoihfpjomaaaR
set_option linter.unusedSimpArgs false
set_option linter.unusedVariables false
set_option maxRecDepth 100000
theorem mayL_snoc {s : Int} {l : List En} {e : En} (h : mayL s l = true) (hg : goodP e = true) (he : e.f0 = s + (l.length : Int)) : mayL s (l ++ [e]) = true := by
  induction l generalizing s with
  | nil => simp [mayL, hg]; simpa using he
  | cons x l ih =>
    simp only [mayL, Bool.and_eq_true, decide_eq_true_eq, List.cons_append] at h ⊢
    exact ⟨h.1, h.2.1, ih h.2.2 (by rw [he]; push_cast [List.length_cons]; omega)⟩
/-- what an audit becomes -/
structure Went (a : ByteArray) (last : Int) (l : List En) (e : En) (ra : ByteArray) (rl : List En) : Prop where
  may0 : mayP a last l = true
  good : goodP e = true
  seq : e.f0 = last + 1
  form : (l.length < 8 ∧ ra = a ∧ rl = l ++ [e]) ∨ ∃ x l', l = x :: l' ∧ l.length = 8 ∧ ra = strOfNums (sealL (bytesOf a) (bytesE x)) ∧ rl = l' ++ [e]
theorem went {a : ByteArray} {last : Int} {l : List En} {e : En} {ra : ByteArray} {rl : List En} (h : addP a last l e = some (ra, rl)) : Went a last l (nextE last e) ra rl := by
  unfold addP at h
  cases hm : mayP a last l && goodP (nextE last e) with
  | false => rw [hm] at h; cases h
  | true =>
    rw [hm, if_pos rfl] at h
    simp only [Bool.and_eq_true] at hm
    have h := Option.some.inj h
    have r := mayR hm.1
    refine ⟨hm.1, hm.2, rfl, ?_⟩
    by_cases h8 : l.length = 8
    · rw [if_pos h8] at h
      obtain ⟨rfl, rfl⟩ := Prod.mk.inj h
      right
      cases l with
      | nil => cases h8
      | cons x l' => exact ⟨x, l', rfl, h8, rfl, rfl⟩
    · rw [if_neg h8] at h
      obtain ⟨rfl, rfl⟩ := Prod.mk.inj h
      left
      have := r.len
      exact ⟨by omega, rfl, rfl⟩
theorem Went.len {a : ByteArray} {last : Int} {l : List En} {e : En} {ra : ByteArray} {rl : List En} (h : Went a last l e ra rl) : (rl.length : Int) = min (last + 1) 8 := by
  have r := mayR h.may0
  have h0 := r.l0
  have h1 := r.len
  rcases h.form with ⟨h2, rfl, rfl⟩ | ⟨x, l', rfl, h2, rfl, rfl⟩
  · rw [List.length_append]; push_cast [List.length_singleton]; omega
  · rw [List.length_append]; simp only [List.length_cons] at h2 h1 ⊢; push_cast at h1 ⊢; simp; omega
theorem Went.may {a : ByteArray} {last : Int} {l : List En} {e : En} {ra : ByteArray} {rl : List En} (h : Went a last l e ra rl) : mayP ra (last + 1) rl = true := by
  have r := mayR h.may0
  have h0 := r.l0
  have hg := goodR h.good
  have h1 := hg.s1
  have hl := h.len
  have hs := h.seq
  unfold mayP
  rw [Bool.and_eq_true, decide_eq_true_eq]
  rcases h.form with ⟨h2, rfl, rfl⟩ | ⟨x, l', rfl, h2, rfl, rfl⟩
  · refine ⟨⟨r.sz, by omega, by omega, hl⟩, ?_⟩
    have := mayL_snoc r.seq h.good (by omega)
    rw [List.length_append]
    rw [show last + 1 - ((l.length + [e].length : Nat) : Int) + 1 = last - (l.length : Int) + 1 from by push_cast [List.length_singleton]; omega]
    exact this
  · refine ⟨⟨by rw [str_size, sealL_len], by omega, by omega, hl⟩, ?_⟩
    have hq := r.seq
    simp only [mayL, Bool.and_eq_true, decide_eq_true_eq, List.length_cons] at hq
    simp only [List.length_cons] at h2
    have := mayL_snoc hq.2.2 h.good (by push_cast; omega)
    rw [List.length_append]
    rw [show last + 1 - ((l'.length + [e].length : Nat) : Int) + 1 = last - ((l'.length + 1 : Nat) : Int) + 1 + 1 from by push_cast [List.length_singleton]; omega]
    exact this
theorem Went.chain {a : ByteArray} {last : Int} {l : List En} {e : En} {ra : ByteArray} {rl : List En} (h : Went a last l e ra rl) : chainE (bytesOf ra) rl = sealL (chainE (bytesOf a) l) (bytesE e) := by
  rcases h.form with ⟨h2, rfl, rfl⟩ | ⟨x, l', rfl, h2, rfl, rfl⟩
  · exact chainE_snoc _ _ _
  · rw [bytesOf_str' (sealL_bytes _ _), chainE_snoc]; rfl
theorem Went.dig {a : ByteArray} {last : Int} {l : List En} {e : En} {ra : ByteArray} {rl : List En} (h : Went a last l e ra rl) : digP ra (last + 1) rl = strOfNums (sealL (chainE (bytesOf a) l) (bytesE e)) ∧ digP a last l = strOfNums (chainE (bytesOf a) l) := by
  unfold digP
  rw [h.may, h.may0, if_pos rfl, if_pos rfl, h.chain]
  exact ⟨rfl, rfl⟩
theorem Went.ends {a : ByteArray} {last : Int} {l : List En} {e : En} {ra : ByteArray} {rl : List En} (h : Went a last l e ra rl) : ∃ p, rl = p ++ [e] := by
  rcases h.form with ⟨h2, rfl, rfl⟩ | ⟨x, l', rfl, h2, rfl, rfl⟩ <;> exact ⟨_, rfl⟩
theorem Went.fol {a : ByteArray} {last : Int} {l : List En} {e : En} {ra : ByteArray} {rl : List En} (h : Went a last l e ra rl) : folP a last l ra (last + 1) rl = true := by
  have r := mayR h.may0
  have h0 := r.l0
  have hl := r.len
  refine folP_true ⟨h.may0, h.may, by omega, ?_, ?_⟩
  · intro i x hx hf
    have hi := (List.getElem?_eq_some_iff.1 hx).1
    have hs := mayL_at r.seq hx
    rcases h.form with ⟨h2, rfl, rfl⟩ | ⟨y, l', rfl, h2, rfl, rfl⟩
    · rw [show x.f0 - (last + 1 - ((l ++ [e]).length : Int) + 1) = (i : Int) from by rw [List.length_append]; push_cast [List.length_singleton]; omega, Int.toNat_natCast, List.getElem?_append_left hi]
      exact hx
    · simp only [List.length_append, List.length_cons, List.length_nil] at hf h2 hs ⊢
      push_cast at hf hs ⊢
      cases i with
      | zero => exfalso; simp at hs; omega
      | succ i =>
        rw [show x.f0 - (last + 1 - ((l'.length : Int) + 1) + 1) = (i : Int) from by push_cast at hs; omega, Int.toNat_natCast]
        simp only [List.getElem?_cons_succ] at hx
        rw [List.getElem?_append_left (List.getElem?_eq_some_iff.1 hx).1]
        exact hx
  · intro _
    rw [(h.dig).2]
    rcases h.form with ⟨h2, rfl, rfl⟩ | ⟨y, l', rfl, h2, rfl, rfl⟩
    · rw [show last - (last + 1 - ((l ++ [e]).length : Int) + 1) + 1 = (l.length : Int) from by rw [List.length_append]; push_cast [List.length_singleton]; omega, Int.toNat_natCast, List.take_left]
    · rw [show last - (last + 1 - ((l' ++ [e]).length : Int) + 1) + 1 = (l'.length : Int) from by rw [List.length_append]; push_cast [List.length_singleton]; omega, Int.toNat_natCast, List.take_left, bytesOf_str' (sealL_bytes _ _)]
      rfl
end Go.Proofs.Ytmifoihfpjomaaa.F

-- RegQ
namespace Go.Proofs.YtmifoihfpjomaaaR
open Go Go.RowKit
set_option linter.unusedSimpArgs false
set_option linter.unusedVariables false
section
variable (P : Program) (Q : Exit → Act → World → Prop) (R : World → World → Prop) (Rp : Act → World → World → Prop) (V : Nat → World → Value → Prop) (a0 : Act) (w0 : World) (E : Act → World → Prop)
def PhGoalQ (o : Oper) (g : GuardT) (i : Nat) (r : Reads) : Phase → Prop
  | .plain => ∀ a w, R w0 w → Deps V a0 a w r → OpGoal P Q R V o g i a w
  | .float => ∀ a w, Deps V a0 a w r → OpGoal P Q (fun w w' => w' = w) V o g i a w
  | .big => o.guard = none ∧ ∀ a w, R w0 w → Deps V a0 a w r → ∀ K : Act → World → Prop, (∀ v w', Rp (a.put o.dst v) w w' → V i w' v → K (a.put o.dst v) w') → o.wp P a w K Q
def PhHoldQ : Nat → List Oper → List (Reads × GuardT) → List Phase → Prop
  | i, o :: os, (r, g) :: rs, k :: ks => PhGoalQ P Q R Rp V a0 w0 o g i r k ∧ PhHoldQ (i + 1) os rs ks
  | _, _, _, _ => True
end

section
variable {P : Program} {ops : Array Oper} {Q : Exit → Act → World → Prop} {R : World → World → Prop} {Rp : Act → World → World → Prop} {V : Nat → World → Value → Prop} {a0 : Act} {w0 : World} {E : Act → World → Prop}
theorem phHold_atQ : ∀ (os : List Oper) (rs : List (Reads × GuardT)) (ks : List Phase) (k i : Nat) (o : Oper) (r : Reads) (g : GuardT) (p : Phase), PhHoldQ P Q R Rp V a0 w0 k os rs ks → os[i]? = some o → rs[i]? = some (r, g) → ks[i]? = some p →
    PhGoalQ P Q R Rp V a0 w0 o g (k + i) r p
  | [], _, _, _, i, o, r, g, p, _, ho, _, _ => by simp at ho
  | o' :: os, [], _, _, i, o, r, g, p, _, _, hr, _ => by simp at hr
  | o' :: os, (r', g') :: rs, [], _, i, o, r, g, p, _, _, _, hk => by simp at hk
  | o' :: os, (r', g') :: rs, p' :: ks, k, 0, o, r, g, p, h, ho, hr, hk => by
    simp at ho hr hk
    obtain ⟨rfl, rfl⟩ := hr
    subst ho
    subst hk
    exact h.1
  | o' :: os, (r', g') :: rs, p' :: ks, k, i + 1, o, r, g, p, h, ho, hr, hk => by
    have := phHold_atQ os rs ks (k + 1) i o r g p h.2 (by simpa using ho) (by simpa using hr) (by simpa using hk)
    rw [show k + 1 + i = k + (i + 1) from by omega] at this
    exact this
/-- what is known between two operations -/
structure InvQ (ops : Array Oper) (m : Nat) (R : World → World → Prop) (Rp : Act → World → World → Prop) (V : Nat → World → Value → Prop) (ks : List Phase) (a0 : Act) (w0 : World) (listed : Array Bool) (a : Act) (w : World) : Prop where
  early : ¬ BigIn ks listed → R w0 w
  late : BigIn ks listed → ∃ w1, R w0 w1 ∧ Rp a w1 w
  size : a.tmps.size = a0.tmps.size
  defers : a.defers = a0.defers
  lsize : listed.size = ops.size
  closed : Closed ops listed
  tail : ∀ j, m ≤ j → listed.getD j false = false
  tmps : ∀ t, match lastW ops (fun j => listed.getD j false) t with
    | some j => V j w (a.tmps[t]?.getD undef)
    | none => a.tmps[t]?.getD undef = a0.tmps[t]?.getD undef
theorem wpAny_invQ {A : List Nat} {reads : List (Reads × GuardT)} {ks : List Phase} (hA : edgesOk ops A = true) (hP : pairsOk ops A = true) (hR : readsOk ops reads a0.tmps.size = true) (hT : tailOk ops A reads.length = true)
    (hrf : ∀ w, R w w) (htr : ∀ a b c, R a b → R b c → R a c) (hK : phaseOk A ks reads.length = true)
    (hst : ∀ i, ks[i]? ≠ some .big → ∀ w w' v, R w w' ∨ (∃ a, Rp a w w') → V i w v → V i w' v)
    (hfl : ∀ (i : Nat) (o : Oper), ks[i]? = some .float → ops[i]? = some o → ∀ a w1 w v, Rp a w1 w → Rp (a.put o.dst v) w1 w)
    (hops : PhHoldQ P Q R Rp V a0 w0 0 ops.toList reads ks)
    (hend : ∀ listed a w, (∀ j, listed.getD j false = decide (j < reads.length)) → InvQ ops reads.length R Rp V ks a0 w0 listed a w → wpList P ops Q (ops.toList.drop reads.length) a w) :
    ∀ (fuel : Nat) (listed : Array Bool) (a : Act) (w : World), listed.toList.count false ≤ fuel → InvQ ops reads.length R Rp V ks a0 w0 listed a w → wpAny P .any ops Q fuel listed a w := by
  have hT0 := hT
  simp only [tailOk, Bool.and_eq_true, decide_eq_true_eq, List.all_eq_true, Bool.or_eq_true, List.mem_range] at hT0
  -- when all of the head has come up
  have fin : ∀ (fuel : Nat) (listed : Array Bool) (a : Act) (w : World), listed.toList.count false ≤ fuel → InvQ ops reads.length R Rp V ks a0 w0 listed a w → (∀ j, j < reads.length → listed.getD j false = true) → wpAny P .any ops Q fuel listed a w := by
    intro fuel listed a w hf hi hall
    have hl : ∀ j, listed.getD j false = decide (j < reads.length) := by
      intro j
      rcases Nat.lt_or_ge j reads.length with h | h
      · rw [hall j h]; simp [h]
      · rw [hi.tail j h]; simp; omega
    refine wpAny_tail hA hT fuel reads.length listed a w (Nat.le_refl _) ?_ hT0.1 hi.lsize hl (hend listed a w hl hi)
    -- those that are not listed are as many as the tail is long
    have : (listed.toList.drop reads.length).count false = listed.size - reads.length := by
      have h1 : listed.toList.drop reads.length = List.replicate (listed.size - reads.length) false := by
        refine List.ext_getElem (by simp) fun j h1 h2 => ?_
        simp only [List.getElem_drop, List.getElem_replicate]
        have h3 : reads.length + j < listed.size := by simp at h1; omega
        have h4 := hi.tail (reads.length + j) (by omega)
        simpa [h3] using h4
      rw [h1, List.count_replicate_self]
    have h2 : (listed.toList.drop reads.length).count false ≤ listed.toList.count false := List.Sublist.count_le _ (List.drop_sublist _ _)
    have := hi.lsize
    omega
  -- before that, nothing of the tail may come up
  have low : ∀ (listed : Array Bool), listed.size = ops.size → Closed ops listed → ∀ i, i ∈ Region.ready .any ops listed → reads.length ≤ i → ∀ j, j < reads.length → listed.getD j false = true := by
    intro listed hs hc i hi hm j hj
    obtain ⟨hun, o, ho, hd⟩ := mem_ready.1 hi
    have hisz := (Array.getElem?_eq_some_iff.1 ho).1
    exact closed_anc hA hc i o ho hd j ((hT0.2 i hisz).resolve_left (by omega) j (by omega))
  intro fuel
  induction fuel with
  | zero =>
    intro listed a w hf hi
    refine fin 0 listed a w hf hi fun j hj => ?_
    have hjs : j < listed.size := by have := hi.lsize; omega
    cases hl : listed.getD j false with
    | true => rfl
    | false =>
      exfalso
      have hv : listed[j] = false := by simpa [hjs] using hl
      have : 0 < listed.toList.count false := List.count_pos_iff.2 (by rw [← hv]; simp)
      omega
  | succ fuel ih =>
    intro listed a w hf hi
    by_cases hall : ∀ j, j < reads.length → listed.getD j false = true
    · exact fin (fuel + 1) listed a w hf hi hall
    refine ⟨fun h => absurd (fun j hj => all_of_ready rfl hA hi.lsize h j (by omega)) hall, fun i hir => ?_⟩
    have him : i < reads.length := by
      rcases Nat.lt_or_ge i reads.length with h | h
      · exact h
      · exact absurd (low listed hi.lsize hi.closed i hir h) hall
    obtain ⟨hun, o, ho, hdeps⟩ := mem_ready.1 hir
    have hisz : i < ops.size := (Array.getElem?_eq_some_iff.1 ho).1
    have hun' : listed.getD i false = false := by rw [getD_irrel (by rw [hi.lsize]; exact hisz) false true]; exact hun
    simp only [readsOk, List.all_eq_true] at hR
    have hRi := hR i (List.mem_range.2 him)
    have hri : reads[i]? = some (reads[i]'(by omega)) := List.getElem?_eq_getElem (by omega)
    generalize hrg : reads[i]'(by omega) = rg at hri
    obtain ⟨r, g⟩ := rg
    rw [ho, hri] at hRi
    simp only [Bool.and_eq_true, List.all_eq_true] at hRi
    obtain ⟨⟨hr, hdst⟩, hg⟩ := hRi
    -- ancestors of i are listed; descendants are not
    have hanc : ∀ k, (A.getD i 0).testBit k = true → listed.getD k false = true := closed_anc hA hi.closed i o ho hdeps
    have hdesc : ∀ j oj, ops[j]? = some oj → (A.getD j 0).testBit i = true → listed.getD j false = false := by
      intro j oj hoj hb
      cases hl : listed.getD j false with
      | false => rfl
      | true =>
        have := closed_anc hA hi.closed j oj hoj (hi.closed j oj hoj hl) i hb
        rw [this] at hun'; cases hun'
    have pair : ∀ i' j' oi' oj', i' < j' → ops[i']? = some oi' → ops[j']? = some oj' → (A.getD j' 0).testBit i' = true ∨ ((∀ t, oi'.dst = some t → t ∉ names ops oj') ∧ ∀ t, oj'.dst = some t → t ∉ oi'.looksAt ops) := by
      intro i' j' oi' oj' hlt hoi hoj
      have h1 := List.all_eq_true.1 hP j' (List.mem_range.2 (Array.getElem?_eq_some_iff.1 hoj).1)
      simp only [hoj, List.all_eq_true, List.mem_range] at h1
      have h2 := h1 i' hlt
      simp only [hoi, Bool.or_eq_true, Bool.and_eq_true] at h2
      rcases h2 with h2 | ⟨h2, h3⟩
      · exact .inl h2
      · refine .inr ⟨fun t ht => ?_, fun t ht => ?_⟩
        · simp [ht] at h2; exact h2
        · simp [ht] at h3; exact h3
    -- the writers that are listed of what i looks at are those ahead of it
    have hlook : ∀ t ∈ o.looksAt ops, lastW ops (fun j => listed.getD j false) t = lastW ops (fun j => decide (j < i)) t := by
      intro t ht
      refine lastW_congr fun j oj hoj hd => ?_
      rcases Nat.lt_trichotomy j i with hlt | rfl | hgt
      · have := (pair j i oj o hlt hoj ho).resolve_right (fun h => h.1 t hd (List.mem_append_right _ ht))
        simp [hlt, hanc j this]
      · simp [hun']
      · have := (pair i j o oj hgt ho hoj).resolve_right (fun h => h.2 t hd ht)
        rw [hdesc j oj hoj this]
        symm; simp; omega
    have hD : Deps V a0 a w r := by
      refine deps_of a w r fun ⟨t, j⟩ hx => ?_
      have h1 := hr (t, j) hx
      simp only [beq_iff_eq, List.contains_iff_mem] at h1
      have h2 := hi.tmps t
      rw [hlook t h1.1, h1.2] at h2
      cases j <;> exact h2
    simp only [phaseOk, Bool.and_eq_true, beq_iff_eq, List.all_eq_true, List.mem_range] at hK
    have hki : ks[i]? = some (ks[i]'(by omega)) := List.getElem?_eq_getElem (by omega)
    generalize hkk : ks[i]'(by omega) = kd at hki
    have hgoal := phHold_atQ ops.toList reads ks 0 i o r g kd hops (by simpa using ho) hri hki
    rw [Nat.zero_add] at hgoal
    have big_all : ∀ p, ks[p]? = some .big → ∀ j, j < reads.length → j ≠ p → ks[j]? = some .float ∨ (A.getD p 0).testBit j = true := by
      intro p hp j hj hne
      have hpl : p < reads.length := by
        have := (List.getElem?_eq_some_iff.1 hp).1
        omega
      have := hK.2 p hpl
      rw [hp] at this
      simp only [List.all_eq_true, List.mem_range, Bool.or_eq_true, beq_iff_eq] at this
      rcases this j hj with (h | h) | h
      · exact absurd h hne
      · exact .inl h
      · exact .inr h
    have noBig : kd ≠ .float → ¬ BigIn ks listed := by
      rintro hne ⟨p, hp, hl⟩
      by_cases hip : i = p
      · subst hip; rw [hun'] at hl; cases hl
      · rcases big_all p hp i him hip with h | h
        · rw [hki] at h; exact hne (Option.some.inj h)
        · have hpo : p < ops.size := by
            rcases Nat.lt_or_ge p ops.size with h' | h'
            · exact h'
            · rw [show listed.getD p false = false from by simp [Array.getElem?_eq_none (show listed.size ≤ p by rw [hi.lsize]; exact h')]] at hl; cases hl
          have := closed_anc hA hi.closed p _ (Array.getElem?_eq_getElem hpo) (hi.closed p _ (Array.getElem?_eq_getElem hpo) hl) i h
          rw [this] at hun'; cases hun'
    have bigSet : ∀ {k : Phase}, kd = k → k ≠ .big → (BigIn ks (listed.setIfInBounds i true) ↔ BigIn ks listed) := by
      intro k hk hne
      constructor
      · rintro ⟨p, hp, hl⟩
        by_cases hip : i = p
        · subst hip; rw [hki] at hp; exact absurd (hk.symm.trans (Option.some.inj hp)) hne
        · rw [getD_set_other _ hip] at hl; exact ⟨p, hp, hl⟩
      · rintro ⟨p, hp, hl⟩
        by_cases hip : i = p
        · subst hip; rw [hun'] at hl; cases hl
        · exact ⟨p, hp, by rw [getD_set_other _ hip]; exact hl⟩
    have notBig : ∀ j, listed.getD j false = true → ¬ BigIn ks listed → ks[j]? ≠ some .big := fun j hl hb h => hb ⟨j, h, hl⟩
    -- behind operation i
    have next : ∀ v w', (∀ j, j ≠ i → listed.getD j false = true → ∀ u, V j w u → V j w' u) → (¬ BigIn ks (listed.setIfInBounds i true) → R w0 w') → (BigIn ks (listed.setIfInBounds i true) → ∃ w1, R w0 w1 ∧ Rp (a.put o.dst v) w1 w') → V i w' v → wpAny P .any ops Q fuel (listed.setIfInBounds i true) (a.put o.dst v) w' := by
      intro v w' hww he hl hv
      refine ih _ _ _ (unlisted_set hun fuel hf) ⟨he, hl, ?_, ?_, by simp [hi.lsize], ?_, fun j hj => ?_, ?_⟩
      · cases hd : o.dst <;> simp [Act.put, hi.size]
      · cases hd : o.dst <;> simp [Act.put, hi.defers]
      · intro j oj hoj hl e he hb
        by_cases hji : i = j
        · subst hji
          rw [ho] at hoj
          obtain rfl := Option.some.inj hoj
          by_cases hei : i = e.on
          · rw [← hei]; exact getD_set_self (by rw [hi.lsize]; exact hisz) _
          · rw [getD_set_other _ hei]; exact hdeps e he hb
        · rw [getD_set_other _ hji] at hl
          by_cases hei : i = e.on
          · rw [← hei]; exact getD_set_self (by rw [hi.lsize]; exact hisz) _
          · rw [getD_set_other _ hei]; exact hi.closed j oj hoj hl e he hb
      · rw [getD_set_other _ (by omega)]; exact hi.tail j hj
      · intro t
        by_cases hd : o.dst = some t
        · rw [lastW_set ho hd (p := fun j => (listed.setIfInBounds i true).getD j false) (getD_set_self (by rw [hi.lsize]; exact hisz) _) (fun j oj hoj hdj hlt => by
            have := (pair i j o oj hlt ho hoj).resolve_right (fun h => h.1 t hd (by simp [names, hdj]))
            rw [getD_set_other _ (by omega)]
            exact hdesc j oj hoj this)]
          have htn : t < a.tmps.size := by rw [hi.size]; simpa [hd] using hdst
          simp only [hd, Act.put]
          simpa [htn] using hv
        · rw [lastW_congr (q := fun j => listed.getD j false) (fun j oj hoj hdj => by
            by_cases hji : i = j
            · subst hji; rw [ho] at hoj; obtain rfl := Option.some.inj hoj; exact absurd hdj hd
            · exact getD_set_other _ hji)]
          have h2 := hi.tmps t
          have same : (a.put o.dst v).tmps[t]?.getD undef = a.tmps[t]?.getD undef := by
            cases hdd : o.dst with
            | none => rfl
            | some d =>
              have hne : d ≠ t := fun e => hd (by rw [hdd, e])
              simp [Act.put, Array.getElem?_setIfInBounds_ne hne]
          rw [same]
          revert h2
          cases hlw : lastW ops (fun j => listed.getD j false) t with
          | none => exact id
          | some j =>
            have hlj := lastW_listed hlw
            refine hww j ?_ hlj _
            intro e
            subst e
            rw [hun'] at hlj
            cases hlj
    unfold wpOp
    simp only [ho]
    cases kd with
    | big =>
      obtain ⟨hgn, hgoal⟩ := hgoal
      have hnb := noBig (by simp)
      rw [if_pos (by simp [Region.wanted, hgn])]
      refine .inl (hgoal a w (hi.early hnb) hD _ fun v w' hrp hv => ?_)
      have hbig : BigIn ks (listed.setIfInBounds i true) := ⟨i, hki, getD_set_self (by rw [hi.lsize]; exact hisz) _⟩
      exact next v w' (fun j _ hl u hu => hst j (notBig j hl hnb) w w' u (.inr ⟨_, hrp⟩) hu) (fun h => absurd hbig h) (fun _ => ⟨w, hi.early hnb, hrp⟩) hv
    | plain =>
      have hnb := noBig (by simp)
      have hgoal := hgoal a w (hi.early hnb) hD
      have hs := bigSet rfl (by simp)
      have nx : ∀ v w', R w w' → V i w' v → wpAny P .any ops Q fuel (listed.setIfInBounds i true) (a.put o.dst v) w' := fun v w' hr hv =>
        next v w' (fun j _ hl u hu => hst j (notBig j hl hnb) w w' u (.inl hr) hu) (fun _ => htr _ _ _ (hi.early hnb) hr) (fun h => absurd (hs.1 h) hnb) hv
      cases hgg : o.guard with
      | none =>
        rw [hgg] at hg
        cases g with
        | some _ => simp at hg
        | none =>
          rw [if_pos (by simp [Region.wanted, hgg])]
          exact .inl (hgoal _ nx)
      | some kw =>
        obtain ⟨k, want⟩ := kw
        rw [hgg] at hg
        cases g with
        | none => simp at hg
        | some tw =>
          obtain ⟨t, want'⟩ := tw
          simp only [Bool.and_eq_true, beq_iff_eq] at hg
          obtain ⟨rfl, hk⟩ := hg
          have hw := wanted_iff (a := a) hgg hk
          by_cases hv : a.tmps[t]?.getD undef = .bool want
          · rw [if_pos (hw.2 hv)]
            exact .inl (hgoal.1 hv _ nx)
          · rw [if_neg (fun h => hv (hw.1 h))]
            exact nx undef w (hrf w) (hgoal.2 hv)
    | float =>
      have hgoal := hgoal a w hD
      have hs := bigSet rfl (by simp)
      have nx : ∀ v w', w' = w → V i w' v → wpAny P .any ops Q fuel (listed.setIfInBounds i true) (a.put o.dst v) w' := fun v w' hr hv => by
        subst hr
        exact next v w' (fun j _ _ u hu => hu) (fun h => hi.early (fun hb => h (hs.2 hb))) (fun h => (hi.late (hs.1 h)).imp fun w1 h1 => ⟨h1.1, hfl i o hki ho a w1 _ v h1.2⟩) hv
      cases hgg : o.guard with
      | none =>
        rw [hgg] at hg
        cases g with
        | some _ => simp at hg
        | none =>
          rw [if_pos (by simp [Region.wanted, hgg])]
          exact .inl (hgoal _ nx)
      | some kw =>
        obtain ⟨k, want⟩ := kw
        rw [hgg] at hg
        cases g with
        | none => simp at hg
        | some tw =>
          obtain ⟨t, want'⟩ := tw
          simp only [Bool.and_eq_true, beq_iff_eq] at hg
          obtain ⟨rfl, hk⟩ := hg
          have hw := wanted_iff (a := a) hgg hk
          by_cases hv : a.tmps[t]?.getD undef = .bool want
          · rw [if_pos (hw.2 hv)]
            exact .inl (hgoal.1 hv _ nx)
          · rw [if_neg (fun h => hv (hw.1 h))]
            exact nx undef w rfl (hgoal.2 hv)
end

section
variable {P : Program} {Q : Exit → Act → World → Prop} {V : Nat → World → Value → Prop} {a0 : Act} {w0 : World} {E : Act → World → Prop}
theorem wp_region_bigQ {id : Nat} {n : Nat} (ks : List Phase) (V : Nat → World → Value → Prop) (R : World → World → Prop) (Rp : Act → World → World → Prop) (reads : List (Reads × GuardT)) (fin : List (Tmp × Nat)) {l : List Oper} (tail : List Oper) (hn : a0.tmps.size = n) (hk : regionOk l.toArray reads fin n = true) (hd : l.drop reads.length = tail) (hm : P.follows .mixedOrders = true)
    (hrf : ∀ w, R w w) (htr : ∀ a b c, R a b → R b c → R a c) (hK : phaseOk (mkAnc l) ks reads.length = true) (hb : ks.contains .big = true)
    (hst : ∀ i, ks[i]? ≠ some .big → ∀ w w' v, R w w' ∨ (∃ a, Rp a w w') → V i w v → V i w' v)
    (hfl : ∀ (i : Nat) (o : Oper), ks[i]? = some .float → l[i]? = some o → ∀ a w1 w v, Rp a w1 w → Rp (a.put o.dst v) w1 w)
    (hops : PhHoldQ P Q R Rp V a0 w0.drew 0 l reads ks)
    (hend : EndHold (fun _ _ => True) V w0.drew (fun a w => (∃ w1, R w0.drew w1 ∧ Rp a w1 w) → wpList P l.toArray Q tail a w) (fun _ => True) fin a0) :
    (Code.region id l.toArray true).wp P Q a0 w0 := by
  subst hn
  subst hd
  simp only [regionOk, Bool.and_eq_true] at hk
  obtain ⟨⟨⟨⟨hA, hP⟩, hR⟩, hF⟩, hT⟩ := hk
  refine wp_region_any hm ?_
  refine wpAny_invQ (Rp := Rp) (ks := ks) (w0 := w0.drew) hA hP hR hT hrf htr hK hst (fun i o hk ho => hfl i o hk (by simpa using ho)) hops ?_ _ _ _ _ (Nat.le_trans List.count_le_length (by simp)) ⟨fun _ => hrf _, ?_, rfl, rfl, by simp, ?_, ?_, ?_⟩
  · intro listed a w hl hi
    simp only [finalOk, Bool.and_eq_true, List.all_eq_true, beq_iff_eq] at hF
    have hF2 : ∀ (j : Nat) (o : Oper) (t : Tmp), l.toArray[j]? = some o → j < reads.length → o.dst = some t → t ∈ fin.map (·.1) := by
      intro j o t ho hj hd
      have := hF.2 o (by
        have h1 : (l.take reads.length)[j]? = some o := by rw [List.getElem?_take_of_lt hj]; simpa using ho
        exact List.mem_of_getElem? h1)
      rw [hd] at this
      simpa using this
    have hlast : ∀ t, lastW l.toArray (fun j => listed.getD j false) t = lastW l.toArray (fun j => decide (j < reads.length)) t := fun t =>
      lastW_congr fun j o ho _ => hl j
    have e : fin.foldl (fun a' x => a'.put (some x.1) ((fun t => a.tmps[t]?.getD undef) x.1)) a0 = a := by
      have h := foldl_put (fun t => a.tmps[t]?.getD undef) fin a0
      have hd : (fin.foldl (fun a' x => a'.put (some x.1) ((fun t => a.tmps[t]?.getD undef) x.1)) a0).defers = a.defers := h.2.1.trans hi.defers.symm
      have ht : (fin.foldl (fun a' x => a'.put (some x.1) ((fun t => a.tmps[t]?.getD undef) x.1)) a0).tmps = a.tmps := by
        refine Array.ext_getElem? fun t => ?_
        rcases Nat.lt_or_ge t a0.tmps.size with hlt | hge
        · rw [h.2.2 t hlt]
          have hat : a.tmps[t]? = some (a.tmps[t]?.getD undef) := by
            have : t < a.tmps.size := by rw [hi.size]; exact hlt
            simp [this]
          by_cases hm : t ∈ fin.map (·.1)
          · rw [if_pos hm]; exact hat.symm
          · rw [if_neg hm]
            have h2 := hi.tmps t
            have hnone : lastW l.toArray (fun j => listed.getD j false) t = none := by
              unfold lastW
              rw [List.find?_eq_none]
              intro j _
              cases ho : l.toArray[j]? with
              | none => simp
              | some o =>
                by_cases hdo : o.dst = some t
                · rcases Nat.lt_or_ge j reads.length with hj | hj
                  · exact absurd (hF2 j o t ho hj hdo) hm
                  · simp only [hi.tail j hj]; simp
                · simp [hdo]
            rw [hnone] at h2
            rw [hat, h2]
            simp [hlt]
        · rw [Array.getElem?_eq_none (by rw [h.1]; exact hge), Array.getElem?_eq_none (by rw [hi.size]; exact hge)]
      generalize fin.foldl (fun a' x => a'.put (some x.1) ((fun t => a.tmps[t]?.getD undef) x.1)) a0 = z at hd ht
      cases z; cases a; simp_all
    have hbin : BigIn ks listed := by
      have hmem := List.contains_iff_mem.1 hb
      obtain ⟨p, hp⟩ := List.mem_iff_getElem?.1 hmem
      refine ⟨p, hp, ?_⟩
      rw [hl p]
      have h1 := (List.getElem?_eq_some_iff.1 hp).1
      have h2 := hK
      simp only [phaseOk, Bool.and_eq_true, beq_iff_eq] at h2
      simp; omega
    have := endHold_at (fun t => a.tmps[t]?.getD undef) w trivial fin _ a0 hend trivial (fun x hx => by
      have h1 := hF.1 x hx
      have h2 := hi.tmps x.1
      rw [hlast, h1] at h2
      exact h2)
    rw [e] at this
    exact this (hi.late hbin)
  · rintro ⟨p, _, hp⟩
    exfalso
    rcases Nat.lt_or_ge p l.length with h | h
    · simp [h] at hp
    · simp [h] at hp
  · intro j o ho hl
    exfalso
    have hj : j < l.length := by simpa using (Array.getElem?_eq_some_iff.1 ho).1
    simp [hj] at hl
  · intro j _
    rcases Nat.lt_or_ge j l.length with h | h
    · simp [h]
    · simp [h]
  · intro t
    have : lastW l.toArray (fun j => (Array.replicate l.toArray.size false).getD j false) t = none := by
      unfold lastW
      rw [List.find?_eq_none]
      intro j hj
      have hj : j < l.length := by simpa using hj
      simp [hj]
    rw [this]

end
/-- no floating one writes it -/
def noFloat (t : Tmp) (l : List Oper) (ks : List Phase) : Bool := (List.range l.length).all fun i => match ks[i]?, l[i]? with
  | some .float, some o => o.dst != some t
  | _, _ => true
theorem noFloat_put {t : Tmp} {l : List Oper} {ks : List Phase} (h : noFloat t l ks = true) (S : Value → World → World → Prop) (i : Nat) (o : Oper) (hk : ks[i]? = some .float) (ho : l[i]? = some o) (a : Act) (w1 w : World) (v : Value) (hs : S (a.tmps[t]?.getD undef) w1 w) : S ((a.put o.dst v).tmps[t]?.getD undef) w1 w := by
  have h1 := List.all_eq_true.1 h i (List.mem_range.2 (List.getElem?_eq_some_iff.1 ho).1)
  rw [hk, ho] at h1
  simp only [bne_iff_ne, ne_eq] at h1
  have : (a.put o.dst v).tmps[t]?.getD undef = a.tmps[t]?.getD undef := by
    cases hd : o.dst with
    | none => rfl
    | some d =>
      have hne : d ≠ t := fun e => h1 (by rw [hd, e])
      simp [Act.put, Array.getElem?_setIfInBounds_ne hne]
  rw [this]
  exact hs
theorem region_bigQ {P : Program} {Q : Exit → Act → World → Prop} {a0 : Act} {w0 : World} {id : Nat} {n : Nat} {l : List Oper} (t : Tmp) (S : Value → World → World → Prop) (ks : List Phase) (Vs : List (World → Value → Prop)) (reads : List (Reads × GuardT)) (fin : List (Tmp × Nat))
    (hn : a0.tmps.size = n) (hk : regionOk l.toArray reads fin n = true) (hK : phaseOk (mkAnc l) ks reads.length = true) (hb : ks.contains .big = true) (hm : P.follows .mixedOrders = true) (hnf : noFloat t l ks = true) (hv : ks.length = Vs.length)
    (hst : StableB Grew (fun w w' => ∃ a : Act, S (a.tmps[t]?.getD undef) w w') ks Vs)
    (hops : PhHoldQ P Q Grew (fun a => S (a.tmps[t]?.getD undef)) (at_ Vs) a0 w0.drew 0 l reads ks)
    (hend : EndHold (fun _ _ => True) (at_ Vs) w0.drew (Later (fun a w => (∃ w1, Grew w0.drew w1 ∧ S (a.tmps[t]?.getD undef) w1 w) → wpList P l.toArray Q (dropN reads l) a w)) (fun _ => True) fin a0) :
    (Code.region id l.toArray true).wp P Q a0 w0 :=
  wp_region_bigQ ks (at_ Vs) Grew (fun a => S (a.tmps[t]?.getD undef)) reads fin _ hn hk (dropN_eq reads l) hm Grew.refl (fun _ _ _ => Grew.trans) hK hb (stableB_at ks Vs hv hst) (fun i o hk ho a w1 w v => noFloat_put hnf S i o hk ho a w1 w v) hops (endHold_later _ _ _ hend)
end Go.Proofs.YtmifoihfpjomaaaR

-- AudT
namespace Go.Proofs.Ytmifoihfpjomaaa.F
open Go Go.RowKit Go.Proofs.YtmifoihfpjomaaaW.PrintWords Go.Proofs.YtmifoihfpjomaaaW.PrintLast Go.Proofs.YtmifoihfpjomaaaW.PrintMore Go.Proofs.YtmifoihfpjomaaaM Go.Proofs.YtmifoihfpjomaaaR
set_option linter.unusedSimpArgs false
set_option linter.unusedVariables false
set_option maxRecDepth 100000
theorem cell_setRow_far {w : World} {g : Nat} {ad : Addr} (h : ad.block ≠ g) (c : Array Value) : (w.setRow g c).cell? ad = w.cell? ad := by
  unfold World.cell?
  rw [setRow_other _ _ _ _ h]
theorem addE_block (ad : Addr) (k : Nat) : (ad.add k).block = ad.block := by unfold Addr.add; split <;> rfl
theorem addE_off (ad : Addr) (k : Nat) : (ad.add k).off = ad.off + k := by unfold Addr.add; split <;> simp_all
theorem cell_lt {w : World} {g : Nat} {t : TypeId} {cs : List Value} (hb : Blk w g t cs) {ad : Addr} {u : Value} (h : ad.block = g) (hc : w.cell? ad = some u) : ad.off < cs.length := by
  unfold World.cell? at hc
  rw [h] at hc
  unfold Blk at hb
  rw [hb] at hc
  simp only at hc
  split at hc
  · cases hc
  · simpa using (Array.getElem?_eq_some_iff.1 hc).1
/-- entries that are read stay when a block of three cells is written -/
theorem C_setRow {w : World} {g : Nat} {t : TypeId} {cs : List Value} {A : Option Addr} {n : Nat} {l : List En} (h : Kd.C k36 w A n l) (hb : Blk w g t cs) (h3 : cs.length = 3) (c : Array Value) : Kd.C k36 (w.setRow g c) A n l := by
  obtain ⟨hl, hx, hc⟩ := h
  refine ⟨hl, hx, fun hp => ?_⟩
  obtain ⟨ad, hA, hcell⟩ := hc hp
  refine ⟨ad, hA, fun j p hj => ?_⟩
  obtain ⟨c', hcs, hR, hcc⟩ := hcell j p hj
  obtain rfl := k36_open hR
  have h4 := hcc 4 (.int .i64 p.f4) rfl
  have hne : ad.block ≠ g := by
    intro he
    have := cell_lt hb (by rw [addE_block]; exact he) h4
    rw [addE_off] at this
    omega
  refine ⟨enc5 p, rfl, k36_mk _ p, fun i u hu => ?_⟩
  rw [← hcc i u hu]
  exact cell_setRow_far (by rw [addE_block]; exact hne) c
/-- the audit in what Add gives -/
def RowE (N : Nat) (rl : List En) (w : World) (v : Value) : Prop := RowO w N 36 5 v rl.length (ens rl)
/-- both results -/
def AddT (N : Nat) (ra : ByteArray) (rn : Int) (rl : List En) (re : Int) : World → Value → Prop := fun w v => ∃ v0, v = .tuple #[.agg #[.string ra, .int .i64 rn, v0], .int .i64 re] ∧ RowE N rl w v0
/-- the first of them -/
def AddA (N : Nat) (ra : ByteArray) (rn : Int) (rl : List En) : World → Value → Prop := fun w v => ∃ v0, v = .agg #[.string ra, .int .i64 rn, v0] ∧ RowE N rl w v0
/-- a new block of three cells -/
def NewA (N : Nat) (t : TypeId) : World → Value → Prop := fun w v => ∃ g cs, v = .pointer (some ⟨g, 0, none⟩) ∧ N ≤ g ∧ cs.length = 3 ∧ Blk w g t cs
/-- into it the audit is put -/
def PutA (N : Nat) (t : TypeId) (ra : ByteArray) (rn : Int) (rl : List En) : Value → World → World → Prop := fun v w w' => ∃ g cs v0, v = .pointer (some ⟨g, 0, none⟩) ∧ N ≤ g ∧ cs.length = 3 ∧ Blk w g t cs ∧ RowE N rl w v0 ∧ w' = w.setRow g [Value.string ra, .int .i64 rn, v0].toArray
section
variable {N : Nat} {t : TypeId} {ra : ByteArray} {rn : Int} {rl : List En} {re : Int} {q : Tmp}
theorem RowE.put {w w' : World} {v : Value} (ht : 36 ≠ t) (hh : Grew w w' ∨ (∃ a : Act, PutA N t ra rn rl (a.tmps[q]?.getD undef) w w')) {m : List En} {M : Nat} (h : RowE M m w v) : RowE M m w' v := by
  rcases hh with hg | ⟨a, g, cs, v0, -, -, -, hb, -, rfl⟩
  · exact RowO.grew h hg
  · exact RowO.upd (S := fun j => j = g) h (Upd.setRow (S := fun j => j = g) (Upd.refl _ _) (.inl rfl) _) (fun j hj e => RowO.ne h hb ht (by rw [hj, e]))
theorem AddT.stable (ht : 36 ≠ t) {sa : ByteArray} {sn : Int} {sl : List En} {se : Int} {M : Nat} : ∀ w w' v, Grew w w' ∨ (∃ a : Act, PutA N t ra rn rl (a.tmps[q]?.getD undef) w w') → AddT M sa sn sl se w v → AddT M sa sn sl se w' v :=
  fun _ _ _ hh ⟨v0, h1, h2⟩ => ⟨v0, h1, h2.put ht hh⟩
theorem AddA.stable (ht : 36 ≠ t) {sa : ByteArray} {sn : Int} {sl : List En} {M : Nat} : ∀ w w' v, Grew w w' ∨ (∃ a : Act, PutA N t ra rn rl (a.tmps[q]?.getD undef) w w') → AddA M sa sn sl w v → AddA M sa sn sl w' v :=
  fun _ _ _ hh ⟨v0, h1, h2⟩ => ⟨v0, h1, h2.put ht hh⟩
theorem NewA.stable {M : Nat} {t' : TypeId} : ∀ w w' v, Grew w w' ∨ (∃ a : Act, PutA N t ra rn rl (a.tmps[q]?.getD undef) w w') → NewA M t' w v → NewA M t' w' v := by
  rintro w w' v hh ⟨g, cs, h1, h2, h3, h4⟩
  rcases hh with hg | ⟨a, g', cs', v0, -, -, -, hb, -, rfl⟩
  · exact ⟨g, cs, h1, h2, h3, h4.grew hg⟩
  · by_cases he : g = g'
    · subst he; exact ⟨g, _, h1, h2, rfl, h4.setRow _⟩
    · exact ⟨g, cs, h1, h2, h3, h4.farRow he _⟩
theorem AuV.stableA {a : ByteArray} {last : Int} {l : List En} : ∀ w w' v, Grew w w' ∨ (∃ a : Act, PutA N t ra rn rl (a.tmps[q]?.getD undef) w w') → AuV a last l w v → AuV a last l w' v := by
  rintro w w' v hh ⟨A, c, h1, h2, h3⟩
  rcases hh with hg | ⟨a, g', cs', v0, -, -, h5, hb, -, rfl⟩
  · exact ⟨A, c, h1, h2, Kd.C_below h3 hg⟩
  · exact ⟨A, c, h1, h2, C_setRow h3 hb h5 _⟩
end
end Go.Proofs.Ytmifoihfpjomaaa.F
