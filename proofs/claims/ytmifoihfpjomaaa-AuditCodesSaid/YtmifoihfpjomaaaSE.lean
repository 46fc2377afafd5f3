/- Texts of this seat laid together: AudG, AudH, AudS, AudL, AudO, F44, F43, AudB, AudI, AudF, AudR, AudP, RegQ, AudT, AudJ, AudK, AudQ. -/
import Derived.Test.YtmifoihfpjomaaaSD
import Derived.Test.YtmifoihfpjomaaaSA

-- AudG
namespace Go.Proofs.Ytmifoihfpjomaaa.F
open Go Go.RowKit Go.Proofs.YtmifoihfpjomaaaW.PrintWords Go.Proofs.YtmifoihfpjomaaaW.PrintLast Go.Proofs.YtmifoihfpjomaaaW.PrintMore Go.Proofs.YtmifoihfpjomaaaM Go.Proofs.YtmifoihfpjomaaaR
attribute [local go_sem] max2_int min2_int max_two min_two
set_option linter.unusedSimpArgs false
set_option linter.unusedVariables false
set_option maxRecDepth 100000
set_option maxHeartbeats 8000000 in
theorem add_c (a : ByteArray) (last : Int) (A : Option Addr) (c : Nat) (l : List En) (s t k : Int) (p : ByteArray) (x : Int) (w : World) (hr : Kd.C k36 w A l.length l) (hc : l.length ≤ c) :
    Calls Try.prog 18 #[.agg #[.string a, .int .i64 last, .slice A l.length c], .agg #[.int .i64 s, .int .i64 t, .int .i64 k, .string p, .int .i64 x]] w (Tells w (AddV w.heap.size last (addP a last l ⟨s, t, k, p, x⟩))) := by
  have HM := Lib.hid (fun w' (h : Grew w w') => may_c a last A c l w' (Kd.C_below hr h) hc)
  obtain ⟨W0, hW0⟩ : ∃ W0, W0 = ((w.alloc (.cells #[.string a, .int .i64 last, .slice A l.length c] 27)).alloc (.cells #[.int .i64 s, .int .i64 t, .int .i64 k, .string p, .int .i64 x] 36)).alloc (.cells #[.string ⟨#[]⟩, .int .i64 0, .slice none 0 0] 27) := ⟨_, rfl⟩
  obtain ⟨H, hH⟩ : ∃ H, H = w.heap.size := ⟨_, rfl⟩
  have hb2 : Blk W0 H 27 [.string a, .int .i64 last, .slice A l.length c] := by rw [hW0, hH]; exact ((Blk.new w _ _).grew (Grew.alloc _ _)).grew (Grew.alloc _ _)
  have hb3 : Blk W0 (H + 1) 36 [.int .i64 s, .int .i64 t, .int .i64 k, .string p, .int .i64 x] := by
    rw [hW0, hH]
    have := (Blk.new (w.alloc (.cells #[.string a, .int .i64 last, .slice A l.length c] 27)) 36 [.int .i64 s, .int .i64 t, .int .i64 k, .string p, .int .i64 x]).grew (Grew.alloc _ (.cells #[.string ⟨#[]⟩, .int .i64 0, .slice none 0 0] 27))
    simpa using this
  have hb4 : Blk W0 (H + 1 + 1) 27 zA := by
    rw [hW0, hH]
    have := Blk.new ((w.alloc (.cells #[.string a, .int .i64 last, .slice A l.length c] 27)).alloc (.cells #[.int .i64 s, .int .i64 t, .int .i64 k, .string p, .int .i64 x] 36)) 27 zA
    simpa [zA] using this
  have hgw : Grew w W0 := by rw [hW0]; exact ((Grew.alloc _ _).trans (Grew.alloc _ _)).trans (Grew.alloc _ _)
  have hWs : W0.heap.size = H + 1 + 1 + 1 := by rw [hW0, hH]; simp
  have HWE := Lib.hid hW0
  have HHE := Lib.hid hH
  have HB2 := Lib.hid (fun wx (h : Grew W0 wx) => hb2.grew h)
  have HB3 := Lib.hid (fun wx (h : Grew W0 wx) => hb3.grew h)
  have HB4 := Lib.hid (fun wx (h : Grew W0 wx) => hb4.grew h)
  have HGW := Lib.hid hgw
  have HWS := Lib.hid hWs
  have HRR := Lib.hid (fun w' (h : Grew w w') => Kd.C_below hr h)
  obtain ⟨n, hn⟩ : ∃ n, n = l.length := ⟨_, rfl⟩
  have HN := Lib.hid hn
  rw [← hn] at HM HB2 HRR hc ⊢
  rw [← hn] at HWE
  obtain ⟨b, hb⟩ : ∃ b, mayP a last l = b := ⟨_, rfl⟩
  rw [hb] at HM
  have HBb := Lib.hid hb
  obtain ⟨R, hR⟩ : ∃ R, R = addP a last l ⟨s, t, k, p, x⟩ := ⟨_, rfl⟩
  rw [← hR]
  have HRe := Lib.hid hR
  clear hW0 hH hb2 hb3 hb4 hgw hWs hr hn hb hR
  cases b with
  | false =>
    have hres : R = none := by rw [HRe.out]; unfold addP; rw [HBb.out]; rfl
    subst hres
    go_enter Try.func18, Try.ntmps18
    go_wp2_with fail
    rw [← HWE.out]
    rw [← HHE.out]
    refine (HM.out _ HGW.out).mono ?_
    rintro e w2 ⟨_, rfl, rfl, hg2⟩
    have hb4 := HB4.out w2 hg2
    go_wp2_with (first | refine wpList_store_blk (c := zA) hb4 (by rfl) 27 (.tmp 4) (.tmp 10) (by rfl) (by rfl) (by rfl) (by kernel_rfl) rfl (by kernel_rfl) ?_)
    exact bodyPost_ret (results_ct rfl _ _ (H + 1 + 1) 27 zA.toArray (0, 0) _ rfl (hb4.setRow zA) Try.underlying27 (by rfl) (by rfl)) rfl ⟨_, rfl, by rfl, Grew.setRow (Grew.trans HGW.out hg2) (by have := HHE.out; omega) _⟩
  | true =>
    have hmr := mayR HBb.out
    have hl0 := hmr.l0
    have hl1 := hmr.l1
    have hlen := hmr.len
    rw [← HN.out] at hlen
    have HMR := Lib.hid hmr
    clear hmr
    have hn8 : n ≤ 8 := by omega
    obtain ⟨q, hq⟩ : ∃ q : Int, q = last + 1 := ⟨_, rfl⟩
    have HQ := Lib.hid hq
    obtain ⟨b2, hb2⟩ : ∃ b2, goodP ⟨q, t, k, p, x⟩ = b2 := ⟨_, rfl⟩
    have HGD := Lib.hid (fun w => good_c q t k p x w)
    rw [hb2] at HGD
    have HB22 := Lib.hid hb2
    have hw1 : last + 1 = q := hq.symm
    clear hb2 hq hlen
    go_enter Try.func18, Try.ntmps18
    go_wp2_with fail
    rw [← HWE.out]
    rw [← HHE.out]
    refine (HM.out _ HGW.out).mono ?_
    rintro e w2 ⟨_, rfl, rfl, hg2⟩
    have b2 := HB2.out w2 hg2
    have b3 := HB3.out w2 hg2
    have k1 := b2.at_ 1
    have j0 := b3.at_ 0
    have j1 := b3.at_ 1
    have j2 := b3.at_ 2
    have j3 := b3.at_ 3
    have j4 := b3.at_ 4
    have f0 := b3.fz 0
    simp only [List.getElem?_cons_zero, List.getElem?_cons_succ] at k1 j0 j1 j2 j3 j4
    have hb3' := b3.set 0 (.int .i64 q)
    obtain ⟨W3, hW3⟩ : ∃ W3, W3 = w2.setCell ⟨H + 1, 0, none⟩ (.int .i64 q) := ⟨_, rfl⟩
    rw [← hW3] at hb3'
    have hb3' : Blk W3 (H + 1) 36 [.int .i64 q, .int .i64 t, .int .i64 k, .string p, .int .i64 x] := hb3'
    have hu3 : Upd (fun j => j = H + 1) w2 W3 := by rw [hW3]; exact Upd.set (S := fun j => j = H + 1) (p := ⟨H + 1, 0, none⟩) (Upd.refl _ _) (.inl rfl) _
    have hgw3 : Grew w W3 := ((Upd.of_grew (S := fun j => j = H + 1) (Grew.trans HGW.out hg2)).trans hu3).grew (fun i hi e => by have := HHE.out; omega)
    have hb23 := b2.upd hu3 (by omega)
    have hb43 := (HB4.out w2 hg2).upd hu3 (by omega)
    have hs3 : H + 1 + 1 + 1 ≤ W3.heap.size := by have h1 := HWS.out; have h2 := hg2.size; have h3 := hu3.size; omega
    have C2 := Lib.hid (fun wx (h : Grew W3 wx) => hb23.grew h)
    have C3 := Lib.hid (fun wx (h : Grew W3 wx) => hb3'.grew h)
    have C4 := Lib.hid (fun wx (h : Grew W3 wx) => hb43.grew h)
    have HW3 := Lib.hid hW3
    have HG3 := Lib.hid hgw3
    have HS3 := Lib.hid hs3
    clear hb3' hW3 hu3 hgw3 hb23 hb43 b2 b3 hg2 hs3
    go_wp2_with fail
    rw [← HW3.out]
    clear k1 j0 j1 j2 j3 j4 f0
    refine (HGD.out _).mono ?_
    rintro e w4 ⟨_, rfl, rfl, hg4⟩
    cases b2 with
    | false =>
      have hres : R = none := by rw [HRe.out]; unfold addP; rw [HBb.out, show nextE last ⟨s, t, k, p, x⟩ = ⟨q, t, k, p, x⟩ from by unfold nextE; rw [HQ.out], HB22.out]; rfl
      subst hres
      have hb4 := C4.out w4 hg4
      go_wp2_with (first | refine wpList_store_blk (c := zA) hb4 (by rfl) 27 (.tmp 4) (.tmp 18) (by rfl) (by rfl) (by rfl) (by kernel_rfl) rfl (by kernel_rfl) ?_)
      exact bodyPost_ret (results_ct rfl _ _ (H + 1 + 1) 27 zA.toArray (0, 0) _ rfl (hb4.setRow zA) Try.underlying27 (by rfl) (by rfl)) rfl ⟨_, rfl, by rfl, Grew.setRow (Grew.trans HG3.out hg4) (by have := HHE.out; omega) _⟩
    | true =>
      have hres : R = some (if l.length = 8 then (strOfNums (sealL (bytesOf a) (bytesE (l.getD 0 z36))), l.drop 1 ++ [⟨q, t, k, p, x⟩]) else (a, l ++ [⟨q, t, k, p, x⟩])) := by
        have hne : nextE last ⟨s, t, k, p, x⟩ = ⟨q, t, k, p, x⟩ := by unfold nextE; rw [HQ.out]
        rw [HRe.out]; unfold addP; rw [HBb.out, hne, HB22.out]; rfl
      have HR2 := Lib.hid hres
      clear hres
      -- the copy of the entries
      have hgw4 := Grew.trans HG3.out hg4
      have hE := emptyE w4 w4.heap.size (Nat.le_refl _)
      have hgE : Grew w4 (w4.alloc (.cells #[] 36)) := Grew.alloc _ _
      have hs4 : H + 1 + 1 + 1 ≤ w4.heap.size := Nat.le_trans HS3.out hg4.size
      obtain ⟨v6, w6, hrun6, hown6, hgr6, -⟩ := app_many (P := Try.prog) (w4.alloc (.cells #[] 36)) w4.heap.size 22 36 22 (.agg #[.int .i64 0, .int .i64 0, .int .i64 0, .string ⟨#[]⟩, .int .i64 0]) 5 48 Try.underlying22 infoEn rfl (by decide) (by decide) (.slice (some ⟨w4.heap.size, 0, none⟩) 0 0) 0 [] A n c (ens l) (by rw [ens_len, HN.out]) (ens_one l) (fun hp => C_ens (HRR.out _ (Grew.trans hgw4 hgE)) hp) hE hgE.size (by omega)
      rw [Nat.zero_add, List.nil_append] at hown6
      have hgr6' : Grew w4 w6 := ((Upd.of_grew (S := fun j => j = w4.heap.size) hgE).trans ((Upd.of_grown hgr6).mono (fun j _ h => by simpa [Value.ownBlock] using h.symm))).grew (fun i hi e => by omega)
      have hg46 := Grew.trans hg4 hgr6'
      have hgw6 := Grew.trans HG3.out hg46
      have k2' := (C2.out _ (Grew.trans hg4 hgE)).at_ 2
      simp only [List.getElem?_cons_zero, List.getElem?_cons_succ] at k2'
      have HRUN := Lib.hid hrun6
      have hown6 := own_less hown6 hs4
      have HO6 := Lib.hid hown6
      have HG46 := Lib.hid hg46
      have HGW6 := Lib.hid hgw6
      have HS6 := Lib.hid (show H + 1 + 1 + 1 ≤ w6.heap.size from Nat.le_trans hs4 hgr6'.size)
      obtain ⟨A6, c6, rfl⟩ := own_slice hown6
      have hc6 := own_le hown6
      clear hrun6 hown6 hgr6 hgr6' hg46 hE hgE hgw4 hg4 hs4 hgw6
      by_cases h8 : n = 8
      · have e8 : ((n : Int) == 8) = true := by simp; omega
        subst h8
        have hl8 : l.length = 8 := HN.out.symm
        have HLV := Lib.hid (show R = some (strOfNums (sealL (bytesOf a) (bytesE (l.getD 0 z36))), l.drop 1 ++ [⟨q, t, k, p, x⟩]) from by rw [HR2.out, if_pos hl8])
        obtain ⟨S, hS⟩ : ∃ S, S = strOfNums (sealL (bytesOf a) (bytesE (l.getD 0 z36))) := ⟨_, rfl⟩
        rw [← hS] at HLV
        obtain ⟨⟨y0, y1, y2, y3, y4⟩, hy⟩ : ∃ y : En, y = l.getD 0 z36 := ⟨_, rfl⟩
        have hly : l[0]? = some ⟨y0, y1, y2, y3, y4⟩ := by rw [hy]; simp [List.getD, List.getElem?_eq_getElem (show 0 < l.length by omega)]
        have hgy : goodP ⟨y0, y1, y2, y3, y4⟩ = true := HMR.out.good _ (List.mem_of_getElem? hly)
        rw [← hy] at hS
        have HBY := Lib.hid (fun w => bytes_c y0 y1 y2 y3 y4 hgy w)
        obtain ⟨BY, hBY⟩ : ∃ BY, BY = strOfNums (bytesE ⟨y0, y1, y2, y3, y4⟩) := ⟨_, rfl⟩
        have HSE := Lib.hid (fun w => seal_c w (bytesOf a) (bytesE ⟨y0, y1, y2, y3, y4⟩) (bytesOf_bytes a) (bytesE_bytes _) (by rw [bytesOf_length]; have := HMR.out.sz; omega) (by have := bytesE_len hgy; omega))
        rw [str_bytes, ← hBY, ← hS] at HSE
        rw [← hBY] at HBY
        obtain ⟨g6, o6, cap6, hv6, -, -, hg6, hcell6, -⟩ := (rowO_of_own HO6.out).at_ (by omega)
        injection hv6 with hv61 hv62 hv63
        subst hv61 hv63
        have hrow6 := rowO_of_own HO6.out
        have hcl0 := hcell6 0 (by omega)
        have hcl1 := hcell6 1 (by omega)
        have hcl2 := hcell6 2 (by omega)
        have hcl3 := hcell6 3 (by omega)
        have hcl4 := hcell6 4 (by omega)
        have hea := ens_at l 0 _ hly
        have hea0 := hea 0 (by omega)
        have hea1 := hea 1 (by omega)
        have hea2 := hea 2 (by omega)
        have hea3 := hea 3 (by omega)
        have hea4 := hea 4 (by omega)
        simp only [Nat.zero_mul, Nat.zero_add] at hea0 hea1 hea2 hea3 hea4
        rw [hea0] at hcl0
        rw [hea1] at hcl1
        rw [hea2] at hcl2
        rw [hea3] at hcl3
        rw [hea4] at hcl4
        simp only [enc5, List.getElem?_cons_zero, List.getElem?_cons_succ, Nat.add_zero] at hcl0 hcl1 hcl2 hcl3 hcl4
        have CL := Lib.hid (fun wx (h : Grew w6 wx) => And.intro (pw_cell_below h hcl0) (And.intro (pw_cell_below h hcl1) (And.intro (pw_cell_below h hcl2) (And.intro (pw_cell_below h hcl3) (pw_cell_below h hcl4)))))
        have hb6 := hrow6.base_ g6 rfl
        have HROW6 := Lib.hid hrow6
        clear hcl0 hcl1 hcl2 hcl3 hcl4 hea hea0 hea1 hea2 hea3 hea4 hcell6 hly hgy hy hS hBY hv62 hrow6 hl8
        go_wp2_with (at_builtin; refine wpList_app (by rfl) (.tmp 19) (.tmp 21) 22 (by rfl) (by rfl) (by rfl) HRUN.out ?_)
        apply region_grew [Is _, Is _, Is _, Is _, Is _, Is _] [([(2, none)], none), ([(26, some 0)], none), ([(6, none)], none), ([(28, some 2)], none), ([(29, some 3)], none), ([(30, some 4)], none)] [(26, 0), (27, 1), (28, 2), (29, 3), (30, 4), (31, 5)] rfl (by kernel_rfl) (by kernel_rfl) (show Stable Grew _ from ⟨Is.stable _, Is.stable _, Is.stable _, Is.stable _, Is.stable _, Is.stable _, trivial⟩)
        · show OpsHold _ _ _ _ _ _ _ _ _
          refine ⟨fun a_ wx hR hD K hK => ?_, ?_⟩
          · have hG : Grew w6 wx := (Grew.drew _).trans hR
            simp [Deps, Dep, at_, Is] at hD
            go_simp
            exact hK _ _ (Grew.refl _) rfl
          refine ⟨fun a_ wx hR hD K hK => ?_, ?_⟩
          · have hG : Grew w6 wx := (Grew.drew _).trans hR
            simp [Deps, Dep, at_, Is] at hD
            have e_ := (C2.out wx (Grew.trans HG46.out hG)).at_ 0
            simp only [List.getElem?_cons_zero] at e_
            go_simp
            exact hK _ _ (Grew.refl _) rfl
          refine ⟨fun a_ wx hR hD K hK => ?_, ?_⟩
          · have hG : Grew w6 wx := (Grew.drew _).trans hR
            simp [Deps, Dep, at_, Is] at hD
            go_simp
            exact hK _ _ (Grew.refl _) rfl
          refine ⟨fun a_ wx hR hD K hK => ?_, ?_⟩
          · have hG : Grew w6 wx := (Grew.drew _).trans hR
            simp [Deps, Dep, at_, Is] at hD
            go_simp
            exact hK _ _ (Grew.refl _) rfl
          refine ⟨fun a_ wx hR hD K hK => ?_, ?_⟩
          · have hG : Grew w6 wx := (Grew.drew _).trans hR
            simp [Deps, Dep, at_, Is] at hD
            obtain ⟨e0, e1, e2, e3, e4⟩ := CL.out wx hG
            go_simp
            exact hK _ _ (Grew.refl _) rfl
          refine ⟨fun a_ wx hR hD K hK => ?_, ?_⟩
          · have hG : Grew w6 wx := (Grew.drew _).trans hR
            simp [Deps, Dep, at_, Is] at hD
            go_simp
            have hcn := HBY.out wx
            with_reducible refine hcn.mono ?_
            clear hcn
            rintro e wy ⟨v, rfl, hv, hg⟩
            exact hK _ _ hg hv
          trivial
        · show EndHold _ _ _ _ _ _ _
          refine end_all (xs := [_, _, _, _, _, _]) ⟨rfl, rfl, rfl, rfl, rfl, rfl, trivial⟩ ?_
          rintro wb hR1 -
          refine ⟨?_⟩
          have hG_wb : Grew w6 wb := (Grew.drew _).trans hR1
          clear hR1
          simp only [Act.put, List.setIfInBounds_toArray, List.set_cons_succ, List.set_cons_zero, dropN, putEach]
          go_wp2_with fail
          refine (HSE.out wb).mono ?_
          rintro e w7 ⟨_, rfl, rfl, hgb7⟩
          have hG_w7 : Grew w6 w7 := Grew.trans hG_wb hgb7
          clear hG_wb hgb7
          have hb27 := C2.out w7 (Grew.trans HG46.out hG_w7)
          have k0 := hb27.at_ 0
          have f0 := hb27.fz 0
          simp only [List.getElem?_cons_zero] at k0
          have hb28 := hb27.set 0 (.string S)
          obtain ⟨Wc, hWc⟩ : ∃ Wc, Wc = w7.setCell ⟨H, 0, none⟩ (.string S) := ⟨_, rfl⟩
          rw [← hWc] at hb28
          have hb28 : Blk Wc H 27 [.string S, .int .i64 last, .slice A 8 c] := hb28
          have hu8 : Upd (fun j => j = H) w7 Wc := by rw [hWc]; exact Upd.set (S := fun j => j = H) (p := ⟨H, 0, none⟩) (Upd.refl _ _) (.inl rfl) _
          have D2 := Lib.hid (fun wx (h : Upd (fun j => H + 1 + 1 + 1 ≤ j) Wc wx) => hb28.upd h (by omega))
          have hb38 := (C3.out w7 (Grew.trans HG46.out hG_w7)).upd hu8 (by omega)
          have D3 := Lib.hid (fun wx (h : Upd (fun j => H + 1 + 1 + 1 ≤ j) Wc wx) => hb38.upd h (by omega))
          have hb48 := (C4.out w7 (Grew.trans HG46.out hG_w7)).upd hu8 (by omega)
          have D4 := Lib.hid (fun wx (h : Upd (fun j => H + 1 + 1 + 1 ≤ j) Wc wx) => hb48.upd h (by omega))
          have HGc := Lib.hid (show Grew w Wc from ((Upd.of_grew (S := fun j => j = H) (Grew.trans HGW6.out hG_w7)).trans hu8).grew (fun i hi e => by have := HHE.out; omega))
          have HSc := Lib.hid (show H + 1 + 1 + 1 ≤ Wc.heap.size from Nat.le_trans HS6.out (Nat.le_trans hG_w7.size hu8.size))
          have hr8 := (HROW6.out.grew hG_w7).upd hu8 (fun j hj e => by have := HROW6.out.base_ j hj; omega)
          have HRO := Lib.hid (show RowO Wc (H + 1 + 1 + 1) 36 5 (.slice (some ⟨g6, o6 + 5, none⟩) 7 7) 7 (ens (l.drop 1)) from by
            obtain ⟨hx1, hx2 | ⟨g', o', cap', cur, hx3, hx4, hx5, hx6, hx7, hx8, hx9⟩⟩ := hr8
            · exact absurd hx2.2 (by omega)
            · injection hx3 with hx31 hx32 hx33
              injection hx31 with hx31
              injection hx31 with hx31 hx34
              subst hx31 hx33 hx34
              refine ⟨by rw [ens_len, List.length_drop, ← HN.out], .inr ⟨g6, o6 + 5, 7, cur, rfl, hx4, hx5, Nat.le_refl _, by unfold maxLen; omega, by omega, ?_⟩⟩
              rw [← ens_drop l 1, ← hx9, List.drop_take, List.drop_drop])
          have HWc := Lib.hid hWc
          have c8 : (8 : Int) ≤ (c6 : Int) := by omega
          have c8' : 8 ≤ c6 := hc6
          clear hb27 hb28 hb38 hb48 hu8 hr8 hWc hb6 hg6 hG_w7
          go_wp2_with fail
          rw [← HWc.out]
          clear k0 f0
          have hatV := HRO.out.base_
          have L2 := Lib.hid (fun wx (h : Grew Wc wx ∨ ∃ w1, Grew Wc w1 ∧ w1.grownBy wx (Value.slice (some ⟨g6, o6 + 5, none⟩) 7 7).ownBlock) => D2.out wx ((late_upd h).mono (fun j _ hj => hatV j hj)))
          have L3 := Lib.hid (fun wx (h : Grew Wc wx ∨ ∃ w1, Grew Wc w1 ∧ w1.grownBy wx (Value.slice (some ⟨g6, o6 + 5, none⟩) 7 7).ownBlock) => D3.out wx ((late_upd h).mono (fun j _ hj => hatV j hj)))
          have hlrV := HRO.out.lt
          clear hatV
          apply region_bigF (fun w w' => w.grownBy w' (Value.slice (some ⟨g6, o6 + 5, none⟩) 7 7).ownBlock) [.float, .float, .float, .float, .plain, .plain, .plain, .big] [Is _, Is _, Is _, Is _, Is _, Is _, OneC 36 [.int .i64 q, .int .i64 t, .int .i64 k, .string p, .int .i64 x] (.slice (some ⟨g6, o6 + 5, none⟩) 7 7), AppO (H + 1 + 1 + 1) 36 5 (ens (l.drop 1) ++ enc5 ⟨q, t, k, p, x⟩) (7 + 1) (.slice (some ⟨g6, o6 + 5, none⟩) 7 7) Wc.heap.size] [([(2, none)], none), ([(40, some 0)], none), ([(3, none)], none), ([(42, some 2)], none), ([(6, none)], none), ([(3, none)], none), ([(45, some 5)], none), ([(44, some 4), (46, some 6)], none)] [(46, 6), (47, 7), (40, 0), (41, 1), (42, 2), (43, 3), (44, 4), (45, 5)] rfl (by kernel_rfl) (by kernel_rfl) (by kernel_rfl) (by kernel_rfl) rfl (show StableB Grew _ _ _ from ⟨(fun _ => Is.stableB _), (fun _ => Is.stableB _), (fun _ => Is.stableB _), (fun _ => Is.stableB _), (fun _ => Is.stableB _), (fun _ => Is.stableB _), (fun _ => OneC.stableB _ _ _), (fun h_ => absurd rfl h_), trivial⟩)
          · show PhHoldF _ _ _ _ _ _ _ _ _ _ _
            refine ⟨fun a_ wx hRL hD K hK => ?_, ?_⟩
            · have hF_ := True.intro
              have hRL : Grew Wc wx ∨ ∃ w1_, Grew Wc w1_ ∧ (fun w w' => w.grownBy w' (Value.slice (some ⟨g6, o6 + 5, none⟩) 7 7).ownBlock) w1_ wx := hRL.elim (fun h_ => .inl ((Grew.drew _).trans h_)) (fun h_ => .inr ⟨h_.choose, (Grew.drew _).trans h_.choose_spec.1, h_.choose_spec.2⟩)
              simp [Deps, Dep, at_, Is] at hD
              go_simp
              exact hK _ _ rfl rfl
            refine ⟨fun a_ wx hRL hD K hK => ?_, ?_⟩
            · have hF_ := True.intro
              have hRL : Grew Wc wx ∨ ∃ w1_, Grew Wc w1_ ∧ (fun w w' => w.grownBy w' (Value.slice (some ⟨g6, o6 + 5, none⟩) 7 7).ownBlock) w1_ wx := hRL.elim (fun h_ => .inl ((Grew.drew _).trans h_)) (fun h_ => .inr ⟨h_.choose, (Grew.drew _).trans h_.choose_spec.1, h_.choose_spec.2⟩)
              simp [Deps, Dep, at_, Is] at hD
              have e_ := (L2.out wx hRL).at_ 0
              simp only [List.getElem?_cons_zero] at e_
              go_simp
              exact hK _ _ rfl rfl
            refine ⟨fun a_ wx hRL hD K hK => ?_, ?_⟩
            · have hF_ := True.intro
              have hRL : Grew Wc wx ∨ ∃ w1_, Grew Wc w1_ ∧ (fun w w' => w.grownBy w' (Value.slice (some ⟨g6, o6 + 5, none⟩) 7 7).ownBlock) w1_ wx := hRL.elim (fun h_ => .inl ((Grew.drew _).trans h_)) (fun h_ => .inr ⟨h_.choose, (Grew.drew _).trans h_.choose_spec.1, h_.choose_spec.2⟩)
              simp [Deps, Dep, at_, Is] at hD
              go_simp
              exact hK _ _ rfl rfl
            refine ⟨fun a_ wx hRL hD K hK => ?_, ?_⟩
            · have hF_ := True.intro
              have hRL : Grew Wc wx ∨ ∃ w1_, Grew Wc w1_ ∧ (fun w w' => w.grownBy w' (Value.slice (some ⟨g6, o6 + 5, none⟩) 7 7).ownBlock) w1_ wx := hRL.elim (fun h_ => .inl ((Grew.drew _).trans h_)) (fun h_ => .inr ⟨h_.choose, (Grew.drew _).trans h_.choose_spec.1, h_.choose_spec.2⟩)
              simp [Deps, Dep, at_, Is] at hD
              have e_ := (L3.out wx hRL).at_ 0
              simp only [List.getElem?_cons_zero] at e_
              go_simp
              exact hK _ _ rfl rfl
            refine ⟨fun a_ wx hR hD K hK => ?_, ?_⟩
            · have hG : Grew Wc wx := (Grew.drew _).trans hR
              simp [Deps, Dep, at_, Is] at hD
              go_simp
              exact hK _ _ (Grew.refl _) rfl
            refine ⟨fun a_ wx hR hD K hK => ?_, ?_⟩
            · have hG : Grew Wc wx := (Grew.drew _).trans hR
              simp [Deps, Dep, at_, Is] at hD
              have e0 := (L3.out wx (.inl hG)).at_ 0
              have e1 := (L3.out wx (.inl hG)).at_ 1
              have e2 := (L3.out wx (.inl hG)).at_ 2
              have e3 := (L3.out wx (.inl hG)).at_ 3
              have e4 := (L3.out wx (.inl hG)).at_ 4
              simp only [List.getElem?_cons_zero, List.getElem?_cons_succ] at e0 e1 e2 e3 e4
              go_simp
              exact hK _ _ (Grew.refl _) rfl
            refine ⟨fun a_ wx hR hD K hK => ?_, ?_⟩
            · have hG : Grew Wc wx := (Grew.drew _).trans hR
              simp [Deps, Dep, at_, Is] at hD
              go_simp
              exact hK _ _ (Grew.alloc _ _) (OneC.new (fun k hk => Nat.lt_of_lt_of_le (hlrV k hk) hG.size))
            refine ⟨⟨rfl, fun a_ wx hR hD K hK => ?_⟩, ?_⟩
            · have hG : Grew Wc wx := (Grew.drew _).trans hR
              simp [Deps, Dep, at_, Is] at hD
              obtain ⟨hd0, hd1⟩ := hD
              obtain ⟨g1, h1, h2, h3⟩ := hd1
              obtain ⟨v1, wy, hrun, hown1, hgr1, hat1⟩ := app_rowO (P := Try.prog) wx (H + 1 + 1 + 1) 22 36 22 (.agg #[.int .i64 0, .int .i64 0, .int .i64 0, .string ⟨#[]⟩, .int .i64 0]) 5 48 Try.underlying22 infoEn rfl (by decide) (by decide) (.slice (some ⟨g6, o6 + 5, none⟩) 7 7) 7 _ g1 _ rfl (enc5_one ⟨q, t, k, p, x⟩) (HRO.out.grew hG) h2 (Nat.le_trans HSc.out hG.size) (by omega)
              exact wp_app (.tmp 44) (.tmp 46) 22 (by rfl) (eval_tmp hd0) (eval_tmp h1) hrun (hK _ _ hgr1 ⟨hown1, hat1.imp id (fun ⟨k, h, h'⟩ => ⟨k, h, Nat.le_trans hG.size h'⟩)⟩)
            trivial
          · show EndHold _ _ _ _ _ _ _
            intro v46
            intro v47
            refine end_all (xs := [_, _, _, _, _, _]) ⟨rfl, rfl, rfl, rfl, rfl, rfl, trivial⟩ ?_
            rintro w7 hR1 ⟨⟨-, hOne⟩, hApp⟩
            refine ⟨?_⟩
            obtain ⟨wm_w7, hRm, hP_w7⟩ := hR1
            have hG_w7 : Grew Wc wm_w7 := (Grew.drew _).trans hRm
            clear hRm
            simp only [Act.put, List.setIfInBounds_toArray, List.set_cons_succ, List.set_cons_zero, dropN, putEach]
            obtain ⟨hro7, -⟩ := hApp
            obtain ⟨A9, c9, hv9, -⟩ := hro7.slice
            subst hv9
            have hatV := HRO.out.base_
            have hu7 : Upd (fun j => H + 1 + 1 + 1 ≤ j) Wc w7 := ((Upd.of_grew hG_w7).grown hP_w7 fun k hk => .inl hk).mono (fun j _ hj => hatV j hj)
            have hb4 := D4.out w7 hu7
            have hg7 : Grew w w7 := ((Upd.of_grew (S := fun j => H + 1 + 1 + 1 ≤ j) HGc.out).trans hu7).grew (fun i hi e => by have := HHE.out; omega)
            have HR7 := Lib.hid hro7
            clear hatV hu7 hro7 hP_w7 hG_w7 hOne hlrV
            go_wp2_with (first | refine wpList_store_blk (c := [.string S, .int .i64 q, .slice A9 (7 + 1) c9]) hb4 (by rfl) 27 (.tmp 4) (.tmp 48) (by rfl) (by rfl) (by rfl) (by kernel_rfl) rfl (zA_one _ _ _ _ _) ?_)
            exact bodyPost_ret (results_ct rfl _ _ (H + 1 + 1) 27 ([.string S, .int .i64 q, .slice A9 (7 + 1) c9] : List Value).toArray (0, 0) _ rfl (hb4.setRow ([.string S, .int .i64 q, .slice A9 (7 + 1) c9] : List Value)) Try.underlying27 (by rfl) (by rfl)) rfl ⟨_, rfl, by
              rw [HLV.out]
              refine ⟨_, by rw [HQ.out]; rfl, ?_⟩
              have hsr : ∀ cc, Upd (fun j => j = H + 1 + 1) w7 (w7.setRow (H + 1 + 1) cc) := fun cc => Upd.setRow (S := fun j => j = H + 1 + 1) (Upd.refl _ _) (.inl rfl) cc
              have h := HR7.out.less (base := w.heap.size) (by have := HHE.out; omega)
              rw [← ens_snoc] at h
              rw [List.length_append, List.length_singleton]
              rw [List.length_drop, ← HN.out]; exact h.upd (hsr _) (fun j hj e => by have := HR7.out.base_ j hj; omega), Grew.setRow hg7 (by have := HHE.out; omega) _⟩

      · have e8 : ((n : Int) == 8) = false := by simp; omega
        have HLV := Lib.hid (show R = some (a, l ++ [⟨q, t, k, p, x⟩]) from by rw [HR2.out, if_neg (by rw [← HN.out]; exact h8)])
        obtain ⟨Wc, hWc⟩ : ∃ Wc, Wc = w6 := ⟨_, rfl⟩
        subst hWc
        have D2 := Lib.hid (fun wx (h : Upd (fun j => H + 1 + 1 + 1 ≤ j) Wc wx) => (C2.out Wc HG46.out).upd h (by omega))
        have D3 := Lib.hid (fun wx (h : Upd (fun j => H + 1 + 1 + 1 ≤ j) Wc wx) => (C3.out Wc HG46.out).upd h (by omega))
        have D4 := Lib.hid (fun wx (h : Upd (fun j => H + 1 + 1 + 1 ≤ j) Wc wx) => (C4.out Wc HG46.out).upd h (by omega))
        have HGc := Lib.hid HGW6.out
        have HSc := Lib.hid HS6.out
        have HRO := Lib.hid (rowO_of_own HO6.out)
        clear h8
        go_wp2_with (at_builtin; refine wpList_app (by rfl) (.tmp 19) (.tmp 21) 22 (by rfl) (by rfl) (by rfl) HRUN.out ?_)
        have hatV := HRO.out.base_
        have L2 := Lib.hid (fun wx (h : Grew Wc wx ∨ ∃ w1, Grew Wc w1 ∧ w1.grownBy wx (Value.slice A6 n c6).ownBlock) => D2.out wx ((late_upd h).mono (fun j _ hj => hatV j hj)))
        have L3 := Lib.hid (fun wx (h : Grew Wc wx ∨ ∃ w1, Grew Wc w1 ∧ w1.grownBy wx (Value.slice A6 n c6).ownBlock) => D3.out wx ((late_upd h).mono (fun j _ hj => hatV j hj)))
        have hlrV := HRO.out.lt
        clear hatV
        apply region_bigF (fun w w' => w.grownBy w' (Value.slice A6 n c6).ownBlock) [.float, .float, .float, .float, .plain, .plain, .plain, .big] [Is _, Is _, Is _, Is _, Is _, Is _, OneC 36 [.int .i64 q, .int .i64 t, .int .i64 k, .string p, .int .i64 x] (.slice A6 n c6), AppO (H + 1 + 1 + 1) 36 5 (ens l ++ enc5 ⟨q, t, k, p, x⟩) (n + 1) (.slice A6 n c6) Wc.heap.size] [([(2, none)], none), ([(40, some 0)], none), ([(3, none)], none), ([(42, some 2)], none), ([(6, none)], none), ([(3, none)], none), ([(45, some 5)], none), ([(44, some 4), (46, some 6)], none)] [(46, 6), (47, 7), (40, 0), (41, 1), (42, 2), (43, 3), (44, 4), (45, 5)] rfl (by kernel_rfl) (by kernel_rfl) (by kernel_rfl) (by kernel_rfl) rfl (show StableB Grew _ _ _ from ⟨(fun _ => Is.stableB _), (fun _ => Is.stableB _), (fun _ => Is.stableB _), (fun _ => Is.stableB _), (fun _ => Is.stableB _), (fun _ => Is.stableB _), (fun _ => OneC.stableB _ _ _), (fun h_ => absurd rfl h_), trivial⟩)
        · show PhHoldF _ _ _ _ _ _ _ _ _ _ _
          refine ⟨fun a_ wx hRL hD K hK => ?_, ?_⟩
          · have hF_ := True.intro
            have hRL : Grew Wc wx ∨ ∃ w1_, Grew Wc w1_ ∧ (fun w w' => w.grownBy w' (Value.slice A6 n c6).ownBlock) w1_ wx := hRL.elim (fun h_ => .inl ((Grew.drew _).trans h_)) (fun h_ => .inr ⟨h_.choose, (Grew.drew _).trans h_.choose_spec.1, h_.choose_spec.2⟩)
            simp [Deps, Dep, at_, Is] at hD
            go_simp
            exact hK _ _ rfl rfl
          refine ⟨fun a_ wx hRL hD K hK => ?_, ?_⟩
          · have hF_ := True.intro
            have hRL : Grew Wc wx ∨ ∃ w1_, Grew Wc w1_ ∧ (fun w w' => w.grownBy w' (Value.slice A6 n c6).ownBlock) w1_ wx := hRL.elim (fun h_ => .inl ((Grew.drew _).trans h_)) (fun h_ => .inr ⟨h_.choose, (Grew.drew _).trans h_.choose_spec.1, h_.choose_spec.2⟩)
            simp [Deps, Dep, at_, Is] at hD
            have e_ := (L2.out wx hRL).at_ 0
            simp only [List.getElem?_cons_zero] at e_
            go_simp
            exact hK _ _ rfl rfl
          refine ⟨fun a_ wx hRL hD K hK => ?_, ?_⟩
          · have hF_ := True.intro
            have hRL : Grew Wc wx ∨ ∃ w1_, Grew Wc w1_ ∧ (fun w w' => w.grownBy w' (Value.slice A6 n c6).ownBlock) w1_ wx := hRL.elim (fun h_ => .inl ((Grew.drew _).trans h_)) (fun h_ => .inr ⟨h_.choose, (Grew.drew _).trans h_.choose_spec.1, h_.choose_spec.2⟩)
            simp [Deps, Dep, at_, Is] at hD
            go_simp
            exact hK _ _ rfl rfl
          refine ⟨fun a_ wx hRL hD K hK => ?_, ?_⟩
          · have hF_ := True.intro
            have hRL : Grew Wc wx ∨ ∃ w1_, Grew Wc w1_ ∧ (fun w w' => w.grownBy w' (Value.slice A6 n c6).ownBlock) w1_ wx := hRL.elim (fun h_ => .inl ((Grew.drew _).trans h_)) (fun h_ => .inr ⟨h_.choose, (Grew.drew _).trans h_.choose_spec.1, h_.choose_spec.2⟩)
            simp [Deps, Dep, at_, Is] at hD
            have e_ := (L3.out wx hRL).at_ 0
            simp only [List.getElem?_cons_zero] at e_
            go_simp
            exact hK _ _ rfl rfl
          refine ⟨fun a_ wx hR hD K hK => ?_, ?_⟩
          · have hG : Grew Wc wx := (Grew.drew _).trans hR
            simp [Deps, Dep, at_, Is] at hD
            go_simp
            exact hK _ _ (Grew.refl _) rfl
          refine ⟨fun a_ wx hR hD K hK => ?_, ?_⟩
          · have hG : Grew Wc wx := (Grew.drew _).trans hR
            simp [Deps, Dep, at_, Is] at hD
            have e0 := (L3.out wx (.inl hG)).at_ 0
            have e1 := (L3.out wx (.inl hG)).at_ 1
            have e2 := (L3.out wx (.inl hG)).at_ 2
            have e3 := (L3.out wx (.inl hG)).at_ 3
            have e4 := (L3.out wx (.inl hG)).at_ 4
            simp only [List.getElem?_cons_zero, List.getElem?_cons_succ] at e0 e1 e2 e3 e4
            go_simp
            exact hK _ _ (Grew.refl _) rfl
          refine ⟨fun a_ wx hR hD K hK => ?_, ?_⟩
          · have hG : Grew Wc wx := (Grew.drew _).trans hR
            simp [Deps, Dep, at_, Is] at hD
            go_simp
            exact hK _ _ (Grew.alloc _ _) (OneC.new (fun k hk => Nat.lt_of_lt_of_le (hlrV k hk) hG.size))
          refine ⟨⟨rfl, fun a_ wx hR hD K hK => ?_⟩, ?_⟩
          · have hG : Grew Wc wx := (Grew.drew _).trans hR
            simp [Deps, Dep, at_, Is] at hD
            obtain ⟨hd0, hd1⟩ := hD
            obtain ⟨g1, h1, h2, h3⟩ := hd1
            obtain ⟨v1, wy, hrun, hown1, hgr1, hat1⟩ := app_rowO (P := Try.prog) wx (H + 1 + 1 + 1) 22 36 22 (.agg #[.int .i64 0, .int .i64 0, .int .i64 0, .string ⟨#[]⟩, .int .i64 0]) 5 48 Try.underlying22 infoEn rfl (by decide) (by decide) (.slice A6 n c6) n _ g1 _ rfl (enc5_one ⟨q, t, k, p, x⟩) (HRO.out.grew hG) h2 (Nat.le_trans HSc.out hG.size) (by omega)
            exact wp_app (.tmp 44) (.tmp 46) 22 (by rfl) (eval_tmp hd0) (eval_tmp h1) hrun (hK _ _ hgr1 ⟨hown1, hat1.imp id (fun ⟨k, h, h'⟩ => ⟨k, h, Nat.le_trans hG.size h'⟩)⟩)
          trivial
        · show EndHold _ _ _ _ _ _ _
          intro v46
          intro v47
          refine end_all (xs := [_, _, _, _, _, _]) ⟨rfl, rfl, rfl, rfl, rfl, rfl, trivial⟩ ?_
          rintro w7 hR1 ⟨⟨-, hOne⟩, hApp⟩
          refine ⟨?_⟩
          obtain ⟨wm_w7, hRm, hP_w7⟩ := hR1
          have hG_w7 : Grew Wc wm_w7 := (Grew.drew _).trans hRm
          clear hRm
          simp only [Act.put, List.setIfInBounds_toArray, List.set_cons_succ, List.set_cons_zero, dropN, putEach]
          obtain ⟨hro7, -⟩ := hApp
          obtain ⟨A9, c9, hv9, -⟩ := hro7.slice
          subst hv9
          have hatV := HRO.out.base_
          have hu7 : Upd (fun j => H + 1 + 1 + 1 ≤ j) Wc w7 := ((Upd.of_grew hG_w7).grown hP_w7 fun k hk => .inl hk).mono (fun j _ hj => hatV j hj)
          have hb4 := D4.out w7 hu7
          have hg7 : Grew w w7 := ((Upd.of_grew (S := fun j => H + 1 + 1 + 1 ≤ j) HGc.out).trans hu7).grew (fun i hi e => by have := HHE.out; omega)
          have HR7 := Lib.hid hro7
          clear hatV hu7 hro7 hP_w7 hG_w7 hOne hlrV
          go_wp2_with (first | refine wpList_store_blk (c := [.string a, .int .i64 q, .slice A9 (n + 1) c9]) hb4 (by rfl) 27 (.tmp 4) (.tmp 48) (by rfl) (by rfl) (by rfl) (by kernel_rfl) rfl (zA_one _ _ _ _ _) ?_)
          exact bodyPost_ret (results_ct rfl _ _ (H + 1 + 1) 27 ([.string a, .int .i64 q, .slice A9 (n + 1) c9] : List Value).toArray (0, 0) _ rfl (hb4.setRow ([.string a, .int .i64 q, .slice A9 (n + 1) c9] : List Value)) Try.underlying27 (by rfl) (by rfl)) rfl ⟨_, rfl, by
            rw [HLV.out]
            refine ⟨_, by rw [HQ.out]; rfl, ?_⟩
            have hsr : ∀ cc, Upd (fun j => j = H + 1 + 1) w7 (w7.setRow (H + 1 + 1) cc) := fun cc => Upd.setRow (S := fun j => j = H + 1 + 1) (Upd.refl _ _) (.inl rfl) cc
            have h := HR7.out.less (base := w.heap.size) (by have := HHE.out; omega)
            rw [← ens_snoc] at h
            rw [List.length_append, List.length_singleton]
            rw [← HN.out]; exact h.upd (hsr _) (fun j hj e => by have := HR7.out.base_ j hj; omega), Grew.setRow hg7 (by have := HHE.out; omega) _⟩
end Go.Proofs.Ytmifoihfpjomaaa.F

-- AudH
namespace Go.Proofs.Ytmifoihfpjomaaa.F
open Go Go.RowKit Go.Proofs.YtmifoihfpjomaaaW.PrintWords Go.Proofs.YtmifoihfpjomaaaW.PrintLast Go.Proofs.YtmifoihfpjomaaaW.PrintMore Go.Proofs.YtmifoihfpjomaaaM Go.Proofs.YtmifoihfpjomaaaR
attribute [local go_sem] max2_int min2_int max_two min_two
set_option linter.unusedSimpArgs false
set_option linter.unusedVariables false
set_option maxRecDepth 100000
end Go.Proofs.Ytmifoihfpjomaaa.F

-- AudS
namespace Go.Proofs.Ytmifoihfpjomaaa.F
open Go Go.RowKit Go.Proofs.YtmifoihfpjomaaaW.PrintWords Go.Proofs.YtmifoihfpjomaaaW.PrintLast Go.Proofs.YtmifoihfpjomaaaW.PrintMore Go.Proofs.YtmifoihfpjomaaaM Go.Proofs.YtmifoihfpjomaaaR
attribute [local go_sem] max2_int min2_int max_two min_two
set_option linter.unusedSimpArgs false
set_option linter.unusedVariables false
set_option maxRecDepth 100000
theorem eqEnA (d : Nat) (w : World) (x0 x1 x2 : Int) (x3 : ByteArray) (x4 y0 y1 y2 : Int) (y3 : ByteArray) (y4 : Int) :
    (Op.equalIn (d + 2) 36 (.agg #[.int .i64 x0, .int .i64 x1, .int .i64 x2, .string x3, .int .i64 x4]) (.agg #[.int .i64 y0, .int .i64 y1, .int .i64 y2, .string y3, .int .i64 y4])).run Try.prog w = .ok (x0 == y0 && (x1 == y1 && (x2 == y2 && (x3.toList == y3.toList && (x4 == y4))))) w := by
  refine eqA_of Try.underlying36 (by kernel_rfl) ?_
  refine eqf_cons (by rfl) (by go_simp; rfl) (by go_simp; rfl) (by go_simp) ?_
  refine eqf_cons (by rfl) (by go_simp; rfl) (by go_simp; rfl) (by go_simp) ?_
  refine eqf_cons (by rfl) (by go_simp; rfl) (by go_simp; rfl) (by go_simp) ?_
  refine eqf_cons (by rfl) (by go_simp; rfl) (by go_simp; rfl) (by go_simp) ?_
  exact eqf_last (by rfl) (by go_simp; rfl) (by go_simp; rfl) (by go_simp)
set_option maxHeartbeats 4000000 in
theorem same_c (a : ByteArray) (last : Int) (A1 A2 : Option Addr) (n c1 c2 : Nat) (l : List En) (w : World) (h1 : Kd.C k36 w A1 n l) (h2 : Kd.C k36 w A2 n l) (hn : l.length = n) (hc1 : n ≤ c1) (hc2 : n ≤ c2) (hn2 : n ≤ 1000) :
    Calls Try.prog 12 #[.agg #[.string a, .int .i64 last, .slice A1 n c1], .agg #[.string a, .int .i64 last, .slice A2 n c2]] w (Tells w (Is (.bool true))) := by
  have HN := Lib.hid hn
  obtain ⟨W0, hW0⟩ : ∃ W0, W0 = (w.alloc (.cells #[.string a, .int .i64 last, .slice A1 n c1] 24)).alloc (.cells #[.string a, .int .i64 last, .slice A2 n c2] 24) := ⟨_, rfl⟩
  obtain ⟨H, hH⟩ : ∃ H, H = w.heap.size := ⟨_, rfl⟩
  have hb2 : Blk W0 H 24 [.string a, .int .i64 last, .slice A1 n c1] := by rw [hW0, hH]; exact (Blk.new w _ _).grew (Grew.alloc _ _)
  have hb3 : Blk W0 (H + 1) 24 [.string a, .int .i64 last, .slice A2 n c2] := by
    rw [hW0, hH]
    have := Blk.new (w.alloc (.cells #[.string a, .int .i64 last, .slice A1 n c1] 24)) 24 [.string a, .int .i64 last, .slice A2 n c2]
    simpa using this
  have hgw : Grew w W0 := by rw [hW0]; exact (Grew.alloc _ _).trans (Grew.alloc _ _)
  have HWE := Lib.hid hW0
  have HHE := Lib.hid hH
  have HGW := Lib.hid hgw
  have HB2 := Lib.hid (fun wx (h : Grew W0 wx) => (hb2.grew h).at_ 2)
  have HB3 := Lib.hid (fun wx (h : Grew W0 wx) => (hb3.grew h).at_ 2)
  simp only [List.getElem?_cons_zero, List.getElem?_cons_succ] at HB2 HB3
  have HC1 := Lib.hid (fun wx (h : Grew W0 wx) => Kd.C_below h1 (Grew.trans hgw h))
  have HC2 := Lib.hid (fun wx (h : Grew W0 wx) => Kd.C_below h2 (Grew.trans hgw h))
  have HEQ := Lib.hid (fun (x : En) (w' : World) => show (Op.equalIn 10000 36 (.agg #[.int .i64 x.f0, .int .i64 x.f1, .int .i64 x.f2, .string x.f3, .int .i64 x.f4]) (.agg #[.int .i64 x.f0, .int .i64 x.f1, .int .i64 x.f2, .string x.f3, .int .i64 x.f4])).run Try.prog w' = .ok true w' from by
    have h := eqEnA 9998 w' x.f0 x.f1 x.f2 x.f3 x.f4 x.f0 x.f1 x.f2 x.f3 x.f4
    simpa using h)
  have nn : ((n : Int) != (n : Int)) = false := by simp
  clear h1 h2 hn hb2 hb3 hgw hW0 hH
  go_enter Try.func12, Try.ntmps12
  go_wp2_with fail
  rw [← HWE.out]
  rw [← HHE.out]
  go_loopw [5] (fun iv wr => ∃ i : Nat, iv = .int .i64 (i : Int) ∧ i ≤ n ∧ Grew W0 wr) (fun iv _ => n - (intOf iv).toNat)
  case atStart => exact ⟨0, rfl, Nat.zero_le _, Grew.refl _⟩
  case round =>
    obtain ⟨i, rfl, hi, hgr⟩ := hrel
    have k2 := HB2.out wr hgr
    have k3 := HB3.out wr hgr
    by_cases hlt : i < n
    · have d1 : decide ((i : Int) < (n : Int)) = true := decide_eq_true (by omega)
      have d2 : decide (i < n) = true := decide_eq_true hlt
      have i1 : (i : Int) < (n : Int) := by omega
      obtain ⟨ad1, rfl, a0, a1, a2, a3, a4⟩ := at_T36 (HC1.out wr hgr) (i : Int) (by omega) i1
      obtain ⟨ad2, rfl, b0, b1, b2, b3, b4⟩ := at_T36 (HC2.out wr hgr) (i : Int) (by omega) i1
      obtain ⟨e, he⟩ : ∃ e, e = rd_T36 l (i : Int) := ⟨_, rfl⟩
      rw [Int.toNat_natCast, ← he] at a0 a1 a2 a3 a4 b0 b1 b2 b3 b4
      have heq := HEQ.out e
      obtain ⟨s, t, k, p, x⟩ := e
      simp only at a0 a1 a2 a3 a4 b0 b1 b2 b3 b4 heq
      have HA := Lib.hid (fun wx (h : Grew wr wx) => And.intro (pw_cell_below h a0) (And.intro (pw_cell_below h a1) (And.intro (pw_cell_below h a2) (And.intro (pw_cell_below h a3) (pw_cell_below h a4)))))
      have HBc := Lib.hid (fun wx (h : Grew wr wx) => And.intro (pw_cell_below h b0) (And.intro (pw_cell_below h b1) (And.intro (pw_cell_below h b2) (And.intro (pw_cell_below h b3) (pw_cell_below h b4)))))
      have HEE := Lib.hid heq
      have HGR := Lib.hid hgr
      clear a0 a1 a2 a3 a4 b0 b1 b2 b3 b4 he heq hgr
      go_wp2_with fail
      clear k2 k3
      apply region_grew [Is _, Is _, Is _, Is _, Is _, Is _, Is _, Is _, Is _, Is _] [([(2, none)], none), ([(34, some 0)], none), ([(5, none)], none), ([(35, some 1), (36, some 2)], none), ([(37, some 3)], none), ([(3, none)], none), ([(39, some 5)], none), ([(5, none)], none), ([(40, some 6), (41, some 7)], none), ([(42, some 8)], none)] [(34, 0), (35, 1), (36, 2), (37, 3), (38, 4), (39, 5), (40, 6), (41, 7), (42, 8), (43, 9)] rfl (by kernel_rfl) (by kernel_rfl) (show Stable Grew _ from ⟨Is.stable _, Is.stable _, Is.stable _, Is.stable _, Is.stable _, Is.stable _, Is.stable _, Is.stable _, Is.stable _, Is.stable _, trivial⟩)
      · show OpsHold _ _ _ _ _ _ _ _ _
        refine ⟨fun a_ wx hR hD K hK => ?_, ?_⟩
        · have hG : Grew wr wx := (Grew.drew _).trans hR
          simp [Deps, Dep, at_, Is] at hD
          go_simp
          exact hK _ _ (Grew.refl _) rfl
        refine ⟨fun a_ wx hR hD K hK => ?_, ?_⟩
        · have hG : Grew wr wx := (Grew.drew _).trans hR
          simp [Deps, Dep, at_, Is] at hD
          have e_ := HB2.out wx (Grew.trans HGR.out hG)
          go_simp
          exact hK _ _ (Grew.refl _) rfl
        refine ⟨fun a_ wx hR hD K hK => ?_, ?_⟩
        · have hG : Grew wr wx := (Grew.drew _).trans hR
          simp [Deps, Dep, at_, Is] at hD
          go_simp
          exact hK _ _ (Grew.refl _) rfl
        refine ⟨fun a_ wx hR hD K hK => ?_, ?_⟩
        · have hG : Grew wr wx := (Grew.drew _).trans hR
          simp [Deps, Dep, at_, Is] at hD
          obtain ⟨hd0, hd1⟩ := hD
          go_simp
          exact hK _ _ (Grew.refl _) rfl
        refine ⟨fun a_ wx hR hD K hK => ?_, ?_⟩
        · have hG : Grew wr wx := (Grew.drew _).trans hR
          simp [Deps, Dep, at_, Is] at hD
          obtain ⟨e0, e1, e2, e3, e4⟩ := HA.out wx hG
          go_simp
          exact hK _ _ (Grew.refl _) rfl
        refine ⟨fun a_ wx hR hD K hK => ?_, ?_⟩
        · have hG : Grew wr wx := (Grew.drew _).trans hR
          simp [Deps, Dep, at_, Is] at hD
          go_simp
          exact hK _ _ (Grew.refl _) rfl
        refine ⟨fun a_ wx hR hD K hK => ?_, ?_⟩
        · have hG : Grew wr wx := (Grew.drew _).trans hR
          simp [Deps, Dep, at_, Is] at hD
          have e_ := HB3.out wx (Grew.trans HGR.out hG)
          go_simp
          exact hK _ _ (Grew.refl _) rfl
        refine ⟨fun a_ wx hR hD K hK => ?_, ?_⟩
        · have hG : Grew wr wx := (Grew.drew _).trans hR
          simp [Deps, Dep, at_, Is] at hD
          go_simp
          exact hK _ _ (Grew.refl _) rfl
        refine ⟨fun a_ wx hR hD K hK => ?_, ?_⟩
        · have hG : Grew wr wx := (Grew.drew _).trans hR
          simp [Deps, Dep, at_, Is] at hD
          obtain ⟨hd0, hd1⟩ := hD
          go_simp
          exact hK _ _ (Grew.refl _) rfl
        refine ⟨fun a_ wx hR hD K hK => ?_, ?_⟩
        · have hG : Grew wr wx := (Grew.drew _).trans hR
          simp [Deps, Dep, at_, Is] at hD
          obtain ⟨e0, e1, e2, e3, e4⟩ := HBc.out wx hG
          go_simp
          exact hK _ _ (Grew.refl _) rfl
        trivial
      · show EndHold _ _ _ _ _ _ _
        refine end_all (xs := [_, _, _, _, _, _, _, _, _, _]) ⟨rfl, rfl, rfl, rfl, rfl, rfl, rfl, rfl, rfl, rfl, trivial⟩ ?_
        rintro w2 hR1 -
        refine ⟨?_⟩
        have hG_w2 : Grew wr w2 := (Grew.drew _).trans hR1
        clear hR1
        simp only [Act.put, List.setIfInBounds_toArray, List.set_cons_succ, List.set_cons_zero, dropN, putEach]
        have e_ := HEE.out
        go_wp2_with fail
        clear e_
        go_roundw
        case rel => exact ⟨i + 1, by go_num, by omega, Grew.trans HGR.out hG_w2⟩
        case measure => simp [intOf]; omega
    · have d1 : decide ((i : Int) < (n : Int)) = false := decide_eq_false (by omega)
      have d2 : decide (i < n) = false := decide_eq_false hlt
      go_wp2_with fail
      go_ret
      exact ⟨_, rfl, rfl, Grew.trans HGW.out hgr⟩
end Go.Proofs.Ytmifoihfpjomaaa.F

-- AudL
namespace Go.Proofs.Ytmifoihfpjomaaa.F
open Go Go.RowKit Go.Proofs.YtmifoihfpjomaaaW.PrintWords Go.Proofs.YtmifoihfpjomaaaW.PrintLast Go.Proofs.YtmifoihfpjomaaaW.PrintMore Go.Proofs.YtmifoihfpjomaaaM Go.Proofs.YtmifoihfpjomaaaR
attribute [local go_sem] max2_int min2_int max_two min_two
set_option linter.unusedSimpArgs false
set_option linter.unusedVariables false
set_option maxRecDepth 100000
theorem theirs_c (a : ByteArray) (last : Int) (A : Option Addr) (n c : Nat) (w : World) : Calls Try.prog 13 #[.agg #[.string a, .int .i64 last, .slice A n c]] w (Tells w (Is (.agg #[.string a, .int .i64 last, .slice A n c]))) := by
  go_enter Try.func13, Try.ntmps13
  go_wp2_with fail
  exact bodyPost_ret (v := .agg #[.string a, .int .i64 last, .slice A n c]) (by simp [results, Try.results13, go_sem]) rfl ⟨_, rfl, rfl, by repeat (first | exact Grew.refl _ | exact Grew.trans (Grew.alloc _ _) (Grew.alloc _ _))⟩
/-- an audit whose entries are read -/
def AuV (a : ByteArray) (last : Int) (l : List En) : World → Value → Prop := fun w v => ∃ A c, v = .agg #[.string a, .int .i64 last, .slice A l.length c] ∧ l.length ≤ c ∧ Kd.C k36 w A l.length l
theorem mine_c (a : ByteArray) (last : Int) (A : Option Addr) (c : Nat) (l : List En) (w : World) (hr : Kd.C k36 w A l.length l) (hc : l.length ≤ c) (hl : l.length ≤ 100000) :
    Calls Try.prog 16 #[.agg #[.string a, .int .i64 last, .slice A l.length c]] w (Tells w (AuV a last l)) := by
  refine (strongroomlaw13_mine.calls a last A c l a last l w hr hc (by unfold strongroomlaw13_mine.f; rw [if_pos (by simp; omega)]; rfl)).mono fun e w' ⟨v, he, hR, hb⟩ => ?_
  obtain ⟨A', c', rfl, hc', hC⟩ := Kd.R_reads hR
  exact ⟨_, he, ⟨A', c', rfl, hc', hC⟩, hb⟩
theorem anew_c (w : World) : Calls Try.prog 11 #[] w (Tells w (AuV (strOfNums (List.replicate 32 0)) 0 [])) := by
  refine (audit_New.calls (strOfNums (List.replicate 32 0)) 0 [] w (by unfold audit_New.f; rw [if_pos (by decide)])).mono fun e w' ⟨v, he, hR, hb⟩ => ?_
  obtain ⟨A', c', rfl, hc', hC⟩ := Kd.R_reads hR
  exact ⟨_, he, ⟨A', c', rfl, hc', hC⟩, hb⟩
theorem small_l0 (a : ByteArray) (last : Int) (l : List En) (hl : l.length ≤ 40) : ∀ (suf pre : List En) (k : Nat), l = pre ++ suf → suf.length + 1 ≤ k → ∃ b, strongroomlaw13_small.l0 k (pre.length : Int) a last l = some b := by
  intro suf
  induction suf with
  | nil =>
    intro pre k hp hk
    obtain ⟨k, rfl⟩ : ∃ m, k = m + 1 := ⟨k - 1, by omega⟩
    have : pre.length = l.length := by rw [hp]; simp
    simp only [strongroomlaw13_small.l0]
    rw [if_neg (by omega)]
    exact ⟨_, rfl⟩
  | cons e suf ih =>
    intro pre k hp hk
    obtain ⟨k, rfl⟩ : ∃ m, k = m + 1 := ⟨k - 1, by simp at hk; omega⟩
    have hlen : pre.length + (suf.length + 1) = l.length := by rw [hp]; simp
    simp only [strongroomlaw13_small.l0]
    rw [if_pos (by omega), if_pos (by omega)]
    split
    · exact ⟨_, rfl⟩
    · rw [w64 (x := (pre.length : Int) + 1) (by omega) (by omega)]
      have := ih (pre ++ [e]) k (by rw [hp]; simp) (by simp at hk; omega)
      rw [show (((pre ++ [e]).length : Nat) : Int) = (pre.length : Int) + 1 from by simp] at this
      exact this
theorem small_c (a : ByteArray) (last : Int) (l : List En) : ∃ b, (b = true → l.length ≤ 40) ∧ ∀ (w : World) (A : Option Addr) (c : Nat), Kd.C k36 w A l.length l → l.length ≤ c →
    Calls Try.prog 9 #[.agg #[.string a, .int .i64 last, .slice A l.length c]] w (Tells w (Is (.bool b))) := by
  have key : ∃ k b, strongroomlaw13_small.f k a last l = some b ∧ (b = true → l.length ≤ 40) := by
    unfold strongroomlaw13_small.f
    by_cases h : (l.length : Int) > 40
    · refine ⟨1, false, ?_, by simp⟩
      rw [if_pos h]; simp [strongroomlaw13_small.j0]
    · by_cases h2 : (a.size : Int) > 1000
      · refine ⟨1, false, ?_, by simp⟩
        rw [if_neg h, decide_eq_true h2]; simp [strongroomlaw13_small.j0]
      · obtain ⟨b, hb⟩ := small_l0 a last l (by omega) l [] (l.length + 1) rfl (Nat.le_refl _)
        refine ⟨l.length + 2, b, ?_, fun _ => by omega⟩
        rw [if_neg h, decide_eq_false h2]
        simp only [strongroomlaw13_small.j0]
        rw [if_neg (by simp)]
        exact hb
  obtain ⟨k, b, hf, hb⟩ := key
  exact ⟨b, hb, fun w A c hr hc => tells_is ((strongroomlaw13_small.calls k a last A c l b w hr hc hf).mono fun _ _ h => h)⟩
def Z32 : ByteArray := strOfNums (List.replicate 32 0)
theorem z32_size : Z32.size = 32 := by unfold Z32; rw [str_size, List.length_replicate]
set_option maxHeartbeats 4000000 in
theorem lives_c (w : World) : Calls Try.prog 10 #[] w (Tells w (Is (.bool true))) := by
  have hA := fun (w : World) (A : Option Addr) (c : Nat) (hr : Kd.C k36 w A 0 []) => add_c Z32 0 A c [] 0 3 1 ⟨#[97]⟩ 0 w hr (Nat.zero_le _)
  have hp : addP Z32 0 [] ⟨0, 3, 1, ⟨#[97]⟩, 0⟩ = some (Z32, [⟨1, 3, 1, ⟨#[97]⟩, 0⟩]) := by
    unfold addP
    have h1 : mayP Z32 0 [] = true := by unfold mayP; rw [z32_size]; rfl
    rw [h1]
    rfl
  rw [hp] at hA
  have HADD := Lib.hid hA
  have hgd : goodP ⟨1, 3, 1, ⟨#[97]⟩, 0⟩ = true := by rfl
  have HDG := Lib.hid (fun (w : World) (A : Option Addr) (c : Nat) (hr : Kd.C k36 w A 1 [⟨1, 3, 1, ⟨#[97]⟩, 0⟩]) (hc : 1 ≤ c) => digest_c Z32 1 A c [⟨1, 3, 1, ⟨#[97]⟩, 0⟩] w hr hc)
  have hdp : digP Z32 1 [⟨1, 3, 1, ⟨#[97]⟩, 0⟩] = strOfNums (sealL (bytesOf Z32) (bytesE ⟨1, 3, 1, ⟨#[97]⟩, 0⟩)) := by
    unfold digP
    have h1 : mayP Z32 1 [⟨1, 3, 1, ⟨#[97]⟩, 0⟩] = true := by unfold mayP; rw [z32_size]; rfl
    rw [h1]; rfl
  rw [hdp] at HDG
  obtain ⟨S, hS⟩ : ∃ S, S = strOfNums (sealL (bytesOf Z32) (bytesE ⟨1, 3, 1, ⟨#[97]⟩, 0⟩)) := ⟨_, rfl⟩
  obtain ⟨BY, hBY⟩ : ∃ BY, BY = strOfNums (bytesE ⟨1, 3, 1, ⟨#[97]⟩, 0⟩) := ⟨_, rfl⟩
  have HRB := Lib.hid (fun w => rbytes_c 1 3 1 ⟨#[97]⟩ 0 hgd w)
  have HSE := Lib.hid (fun w => seal_c w (bytesOf Z32) (bytesE ⟨1, 3, 1, ⟨#[97]⟩, 0⟩) (bytesOf_bytes _) (bytesE_bytes _) (by rw [bytesOf_length, z32_size]; omega) (by have := bytesE_len hgd; omega))
  rw [str_bytes, ← hBY, ← hS] at HSE
  rw [← hBY] at HRB
  rw [← hS] at HDG
  obtain ⟨Z, hZ⟩ : ∃ Z, Z = Z32 := ⟨_, rfl⟩
  have hZ2 : strOfNums (List.replicate 32 0) = Z := by rw [hZ]; rfl
  have HNEW := Lib.hid (fun w => anew_c w)
  rw [hZ2] at HNEW
  rw [← hZ] at HADD HDG HSE
  obtain ⟨L32, hL32⟩ : ∃ L : List Int, L = List.replicate 32 0 := ⟨_, rfl⟩
  have HL3 := Lib.hid (show L32.length = 32 from by rw [hL32, List.length_replicate])
  have HZ3 := Lib.hid (show strOfNums L32 = Z from by rw [hL32]; exact hZ2)
  have HL32 := Lib.hid hL32
  clear hL32
  have HZ2 := Lib.hid hZ2
  clear hA hp hdp hS hBY hZ hZ2 hgd
  go_enter Try.func10, Try.ntmps10
  go_wp2_with fail
  refine (HNEW.out w).mono ?_
  rintro e w1 ⟨_, rfl, ⟨A, c, rfl, hc, hC⟩, hg1⟩
  simp only [List.length_nil]
  go_wp2_with fail
  refine (HADD.out w1 A c hC).mono ?_
  rintro e w2 ⟨_, rfl, ⟨v0, rfl, hro⟩, hg2⟩
  obtain ⟨A2, c2, rfl, hc2, hC2⟩ := rowO_C hro rfl
  obtain ⟨g2, o2, cap2, hv2, -, -, -, hcell, -⟩ := hro.at_ (by simp)
  injection hv2 with hv21 hv22 hv23
  subst hv21 hv23
  simp only [List.length_cons, List.length_nil, Nat.zero_add] at hC2 hc2 hv22
  have c0 := hcell 0 (by simp)
  have c1 := hcell 1 (by simp)
  have c2' := hcell 2 (by simp)
  have c3 := hcell 3 (by simp)
  have c4 := hcell 4 (by simp)
  simp [ens, enc5] at c0 c1 c2' c3 c4
  obtain ⟨W3, hW3⟩ : ∃ W3, W3 = w2.alloc (.cells #[.string Z, .int .i64 1, .slice (some ⟨g2, o2, none⟩) 1 c2] 27) := ⟨_, rfl⟩
  obtain ⟨g3, hg3⟩ : ∃ g3, g3 = w2.heap.size := ⟨_, rfl⟩
  have hb3 : Blk W3 g3 27 [.string Z, .int .i64 1, .slice (some ⟨g2, o2, none⟩) 1 c2] := by rw [hW3, hg3]; exact Blk.new _ _ _
  have hgr3 : Grew w2 W3 := by rw [hW3]; exact Grew.alloc _ _
  have HB := Lib.hid (fun wx (h : Grew W3 wx) => And.intro ((hb3.grew h).at_ 0) (And.intro ((hb3.grew h).at_ 1) ((hb3.grew h).at_ 2)))
  simp only [List.getElem?_cons_zero, List.getElem?_cons_succ] at HB
  have HE := Lib.hid (fun wx (h : Grew W3 wx) => And.intro (pw_cell_below (Grew.trans hgr3 h) c0) (And.intro (pw_cell_below (Grew.trans hgr3 h) c1) (And.intro (pw_cell_below (Grew.trans hgr3 h) c2') (And.intro (pw_cell_below (Grew.trans hgr3 h) c3) (pw_cell_below (Grew.trans hgr3 h) c4)))))
  have HDD := Lib.hid (show ∀ wx, Grew W3 wx → Calls Try.prog 20 #[.agg #[.string Z, .int .i64 1, .slice (some ⟨g2, o2, none⟩) 1 c2]] wx (Tells wx (Is (.string S))) from fun wx h => HDG.out wx _ c2 (Kd.C_below hC2 (Grew.trans hgr3 h)) hc2)
  have HGW := Lib.hid (show Grew w W3 from Grew.trans (Grew.trans hg1 hg2) hgr3)
  have HWE := Lib.hid hW3
  have HGE := Lib.hid hg3
  clear hC2 hro hcell c0 c1 c2' c3 c4 hb3 hgr3 hW3 hg3 hC hg1 hg2 hv22
  go_wp2_with fail
  rw [← HWE.out]
  rw [← HGE.out]
  apply region_grew [Is _, Is _, Is _, Is _, Is _, Is _, Is _, Is _, Is _, Is _, Is _, Is _, Is _, Is _, Is _, Is _, Row L32, Is _, Is _, Is _, Is _, Is _, Is _] [([(2, none)], none), ([(9, some 0)], none), ([(10, some 1)], none), ([(1, none), (11, some 2)], some (11, true)), ([(12, some 3), (11, some 2)], some (11, true)), ([(13, some 4), (11, some 2)], some (11, true)), ([(11, some 2), (14, some 5)], none), ([(15, some 6)], none), ([(1, none), (16, some 7)], some (16, true)), ([(17, some 8), (16, some 7)], some (16, true)), ([(18, some 9), (16, some 7)], some (16, true)), ([(19, some 10), (16, some 7)], some (16, true)), ([(16, some 7), (20, some 11)], none), ([(21, some 12)], none), ([(1, none), (22, some 13)], some (22, true)), ([(23, some 14), (22, some 13)], some (22, true)), ([(22, some 13)], some (22, true)), ([(25, some 16), (22, some 13)], some (22, true)), ([(1, none), (22, some 13)], some (22, true)), ([(27, some 18), (22, some 13)], some (22, true)), ([(28, some 19), (22, some 13)], some (22, true)), ([(29, some 20), (22, some 13)], some (22, true)), ([(30, some 21), (22, some 13)], some (22, true))] [(25, 16), (9, 0), (10, 1), (11, 2), (12, 3), (13, 4), (14, 5), (15, 6), (16, 7), (17, 8), (18, 9), (19, 10), (20, 11), (21, 12), (22, 13), (23, 14), (24, 15), (26, 17), (27, 18), (28, 19), (29, 20), (30, 21), (31, 22)] rfl (by kernel_rfl) (by kernel_rfl) (show Stable Grew _ from ⟨Is.stable _, Is.stable _, Is.stable _, Is.stable _, Is.stable _, Is.stable _, Is.stable _, Is.stable _, Is.stable _, Is.stable _, Is.stable _, Is.stable _, Is.stable _, Is.stable _, Is.stable _, Is.stable _, Row.stable _, Is.stable _, Is.stable _, Is.stable _, Is.stable _, Is.stable _, Is.stable _, trivial⟩)
  · show OpsHold _ _ _ _ _ _ _ _ _
    refine ⟨fun a_ wx hR hD K hK => ?_, ?_⟩
    · have hG : Grew W3 wx := (Grew.drew _).trans hR
      simp [Deps, Dep, at_, Is] at hD
      go_simp
      exact hK _ _ (Grew.refl _) rfl
    refine ⟨fun a_ wx hR hD K hK => ?_, ?_⟩
    · have hG : Grew W3 wx := (Grew.drew _).trans hR
      simp [Deps, Dep, at_, Is] at hD
      go_simp
      exact hK _ _ (Grew.refl _) rfl
    refine ⟨fun a_ wx hR hD K hK => ?_, ?_⟩
    · have hG : Grew W3 wx := (Grew.drew _).trans hR
      simp [Deps, Dep, at_, Is] at hD
      go_simp
      exact hK _ _ (Grew.refl _) rfl
    refine ⟨fun a_ wx hR hD => ⟨fun hgd K hK => ?_, fun hgd => ?_⟩, ?_⟩
    · have hG : Grew W3 wx := (Grew.drew _).trans hR
      clear hgd
      simp [Deps, Dep, at_, Is] at hD
      obtain ⟨hd0, hd1⟩ := hD
      go_simp
      exact hK _ _ (Grew.refl _) rfl
    · have hG : Grew W3 wx := (Grew.drew _).trans hR
      exfalso
      simp [Deps, Dep, at_, Is] at hD
      simp_all
    refine ⟨fun a_ wx hR hD => ⟨fun hgd K hK => ?_, fun hgd => ?_⟩, ?_⟩
    · have hG : Grew W3 wx := (Grew.drew _).trans hR
      clear hgd
      simp [Deps, Dep, at_, Is] at hD
      obtain ⟨hd0, hd1⟩ := hD
      have e_ := (HB.out wx hG).2.1
      go_simp
      exact hK _ _ (Grew.refl _) rfl
    · have hG : Grew W3 wx := (Grew.drew _).trans hR
      exfalso
      simp [Deps, Dep, at_, Is] at hD
      simp_all
    refine ⟨fun a_ wx hR hD => ⟨fun hgd K hK => ?_, fun hgd => ?_⟩, ?_⟩
    · have hG : Grew W3 wx := (Grew.drew _).trans hR
      clear hgd
      simp [Deps, Dep, at_, Is] at hD
      obtain ⟨hd0, hd1⟩ := hD
      go_simp
      exact hK _ _ (Grew.refl _) rfl
    · have hG : Grew W3 wx := (Grew.drew _).trans hR
      exfalso
      simp [Deps, Dep, at_, Is] at hD
      simp_all
    refine ⟨fun a_ wx hR hD K hK => ?_, ?_⟩
    · have hG : Grew W3 wx := (Grew.drew _).trans hR
      simp [Deps, Dep, at_, Is] at hD
      obtain ⟨hd0, hd1⟩ := hD
      go_simp
      exact hK _ _ (Grew.refl _) rfl
    refine ⟨fun a_ wx hR hD K hK => ?_, ?_⟩
    · have hG : Grew W3 wx := (Grew.drew _).trans hR
      simp [Deps, Dep, at_, Is] at hD
      go_simp
      exact hK _ _ (Grew.refl _) rfl
    refine ⟨fun a_ wx hR hD => ⟨fun hgd K hK => ?_, fun hgd => ?_⟩, ?_⟩
    · have hG : Grew W3 wx := (Grew.drew _).trans hR
      clear hgd
      simp [Deps, Dep, at_, Is] at hD
      obtain ⟨hd0, hd1⟩ := hD
      go_simp
      exact hK _ _ (Grew.refl _) rfl
    · have hG : Grew W3 wx := (Grew.drew _).trans hR
      exfalso
      simp [Deps, Dep, at_, Is] at hD
      simp_all
    refine ⟨fun a_ wx hR hD => ⟨fun hgd K hK => ?_, fun hgd => ?_⟩, ?_⟩
    · have hG : Grew W3 wx := (Grew.drew _).trans hR
      clear hgd
      simp [Deps, Dep, at_, Is] at hD
      obtain ⟨hd0, hd1⟩ := hD
      have e_ := (HB.out wx hG).2.2
      go_simp
      exact hK _ _ (Grew.refl _) rfl
    · have hG : Grew W3 wx := (Grew.drew _).trans hR
      exfalso
      simp [Deps, Dep, at_, Is] at hD
      simp_all
    refine ⟨fun a_ wx hR hD => ⟨fun hgd K hK => ?_, fun hgd => ?_⟩, ?_⟩
    · have hG : Grew W3 wx := (Grew.drew _).trans hR
      clear hgd
      simp [Deps, Dep, at_, Is] at hD
      obtain ⟨hd0, hd1⟩ := hD
      go_simp
      exact hK _ _ (Grew.refl _) rfl
    · have hG : Grew W3 wx := (Grew.drew _).trans hR
      exfalso
      simp [Deps, Dep, at_, Is] at hD
      simp_all
    refine ⟨fun a_ wx hR hD => ⟨fun hgd K hK => ?_, fun hgd => ?_⟩, ?_⟩
    · have hG : Grew W3 wx := (Grew.drew _).trans hR
      clear hgd
      simp [Deps, Dep, at_, Is] at hD
      obtain ⟨hd0, hd1⟩ := hD
      go_simp
      exact hK _ _ (Grew.refl _) rfl
    · have hG : Grew W3 wx := (Grew.drew _).trans hR
      exfalso
      simp [Deps, Dep, at_, Is] at hD
      simp_all
    refine ⟨fun a_ wx hR hD K hK => ?_, ?_⟩
    · have hG : Grew W3 wx := (Grew.drew _).trans hR
      simp [Deps, Dep, at_, Is] at hD
      obtain ⟨hd0, hd1⟩ := hD
      go_simp
      exact hK _ _ (Grew.refl _) rfl
    refine ⟨fun a_ wx hR hD K hK => ?_, ?_⟩
    · have hG : Grew W3 wx := (Grew.drew _).trans hR
      simp [Deps, Dep, at_, Is] at hD
      go_simp
      exact hK _ _ (Grew.refl _) rfl
    refine ⟨fun a_ wx hR hD => ⟨fun hgd K hK => ?_, fun hgd => ?_⟩, ?_⟩
    · have hG : Grew W3 wx := (Grew.drew _).trans hR
      clear hgd
      simp [Deps, Dep, at_, Is] at hD
      obtain ⟨e0, e1, e2⟩ := HB.out wx hG
      go_simp
      exact hK _ _ (Grew.refl _) rfl
    · have hG : Grew W3 wx := (Grew.drew _).trans hR
      exfalso
      simp [Deps, Dep, at_, Is] at hD
      simp_all
    refine ⟨fun a_ wx hR hD => ⟨fun hgd K hK => ?_, fun hgd => ?_⟩, ?_⟩
    · have hG : Grew W3 wx := (Grew.drew _).trans hR
      clear hgd
      simp [Deps, Dep, at_, Is] at hD
      obtain ⟨hd0, hd1⟩ := hD
      go_simp
      have hcn := HDD.out wx hG
      with_reducible refine hcn.mono ?_
      clear hcn
      rintro e wy ⟨v, rfl, hv, hg⟩
      exact hK _ _ hg hv
    · have hG : Grew W3 wx := (Grew.drew _).trans hR
      exfalso
      simp [Deps, Dep, at_, Is] at hD
      simp_all
    refine ⟨fun a_ wx hR hD => ⟨fun hgd K hK => ?_, fun hgd => ?_⟩, ?_⟩
    · have hG : Grew W3 wx := (Grew.drew _).trans hR
      clear hgd
      simp [Deps, Dep, at_, Is] at hD
      have hmk := print_make (P := Try.prog) 45 5 .u8 1 Try.underlying45 info5 (by decide) 32 (by omega)
      rw [show ((32 : Nat) : Int) = 32 from rfl] at hmk
      go_simp
      obtain ⟨Am, cm, hvm, hnm, hcm, hCm⟩ := own_C (own_made wx wx.heap.size 5 .u8 32 (Nat.le_refl _) (by omega))
      exact hK _ _ (Grew.alloc _ _) ⟨Am, cm, by rw [HL3.out]; exact hvm, by rw [HL3.out]; exact hcm, by rw [HL3.out, HL32.out]; exact hCm⟩
    · have hG : Grew W3 wx := (Grew.drew _).trans hR
      exfalso
      simp [Deps, Dep, at_, Is] at hD
      simp_all
    refine ⟨fun a_ wx hR hD => ⟨fun hgd K hK => ?_, fun hgd => ?_⟩, ?_⟩
    · have hG : Grew W3 wx := (Grew.drew _).trans hR
      clear hgd
      simp [Deps, Dep, at_, Is] at hD
      obtain ⟨⟨A_, c_, hv_, -, hC_⟩, hd1⟩ := hD
      have hcv_ := Kd.C_string (P := Try.prog) (c := c_) Try.underlying45 Try.underlying5 Try.underlying9 hC_
      rw [HL3.out] at hv_ hcv_
      rw [HZ3.out] at hcv_
      clear hC_
      go_simp
      exact hK _ _ (Grew.refl _) rfl
    · have hG : Grew W3 wx := (Grew.drew _).trans hR
      exfalso
      simp [Deps, Dep, at_, Is] at hD
      simp_all
    refine ⟨fun a_ wx hR hD => ⟨fun hgd K hK => ?_, fun hgd => ?_⟩, ?_⟩
    · have hG : Grew W3 wx := (Grew.drew _).trans hR
      clear hgd
      simp [Deps, Dep, at_, Is] at hD
      obtain ⟨hd0, hd1⟩ := hD
      go_simp
      exact hK _ _ (Grew.refl _) rfl
    · have hG : Grew W3 wx := (Grew.drew _).trans hR
      exfalso
      simp [Deps, Dep, at_, Is] at hD
      simp_all
    refine ⟨fun a_ wx hR hD => ⟨fun hgd K hK => ?_, fun hgd => ?_⟩, ?_⟩
    · have hG : Grew W3 wx := (Grew.drew _).trans hR
      clear hgd
      simp [Deps, Dep, at_, Is] at hD
      obtain ⟨hd0, hd1⟩ := hD
      have e_ := (HB.out wx hG).2.2
      go_simp
      exact hK _ _ (Grew.refl _) rfl
    · have hG : Grew W3 wx := (Grew.drew _).trans hR
      exfalso
      simp [Deps, Dep, at_, Is] at hD
      simp_all
    refine ⟨fun a_ wx hR hD => ⟨fun hgd K hK => ?_, fun hgd => ?_⟩, ?_⟩
    · have hG : Grew W3 wx := (Grew.drew _).trans hR
      clear hgd
      simp [Deps, Dep, at_, Is] at hD
      obtain ⟨hd0, hd1⟩ := hD
      go_simp
      exact hK _ _ (Grew.refl _) rfl
    · have hG : Grew W3 wx := (Grew.drew _).trans hR
      exfalso
      simp [Deps, Dep, at_, Is] at hD
      simp_all
    refine ⟨fun a_ wx hR hD => ⟨fun hgd K hK => ?_, fun hgd => ?_⟩, ?_⟩
    · have hG : Grew W3 wx := (Grew.drew _).trans hR
      clear hgd
      simp [Deps, Dep, at_, Is] at hD
      obtain ⟨e0, e1, e2, e3, e4⟩ := HE.out wx hG
      go_simp
      exact hK _ _ (Grew.refl _) rfl
    · have hG : Grew W3 wx := (Grew.drew _).trans hR
      exfalso
      simp [Deps, Dep, at_, Is] at hD
      simp_all
    refine ⟨fun a_ wx hR hD => ⟨fun hgd K hK => ?_, fun hgd => ?_⟩, ?_⟩
    · have hG : Grew W3 wx := (Grew.drew _).trans hR
      clear hgd
      simp [Deps, Dep, at_, Is] at hD
      obtain ⟨hd0, hd1⟩ := hD
      go_simp
      have hcn := HRB.out wx
      with_reducible refine hcn.mono ?_
      clear hcn
      rintro e wy ⟨v, rfl, hv, hg⟩
      exact hK _ _ hg hv
    · have hG : Grew W3 wx := (Grew.drew _).trans hR
      exfalso
      simp [Deps, Dep, at_, Is] at hD
      simp_all
    trivial
  · show EndHold _ _ _ _ _ _ _
    intro v25
    refine end_all (xs := [_, _, _, _, _, _, _, _, _, _, _, _, _, _, _, _, _, _, _, _, _, _]) ⟨rfl, rfl, rfl, rfl, rfl, rfl, rfl, rfl, rfl, rfl, rfl, rfl, rfl, rfl, rfl, rfl, rfl, rfl, rfl, rfl, rfl, rfl, trivial⟩ ?_
    rintro w4 hR1 ⟨-, hMk⟩
    refine ⟨?_⟩
    have hG_w4 : Grew W3 w4 := (Grew.drew _).trans hR1
    clear hR1
    simp only [Act.put, List.setIfInBounds_toArray, List.set_cons_succ, List.set_cons_zero, dropN, putEach]
    go_wp2_with fail
    refine (HSE.out w4).mono ?_
    rintro e w5 ⟨_, rfl, rfl, hg5⟩
    go_wp2_with fail
    go_ret
    exact ⟨_, rfl, rfl, Grew.trans (Grew.trans HGW.out hG_w4) hg5⟩
end Go.Proofs.Ytmifoihfpjomaaa.F

-- AudO
namespace Go.Proofs.Ytmifoihfpjomaaa.F
open Go Go.RowKit Go.Proofs.YtmifoihfpjomaaaW.PrintWords Go.Proofs.YtmifoihfpjomaaaW.PrintLast Go.Proofs.YtmifoihfpjomaaaW.PrintMore Go.Proofs.YtmifoihfpjomaaaM Go.Proofs.YtmifoihfpjomaaaR
attribute [local go_sem] max2_int min2_int max_two min_two
set_option linter.unusedSimpArgs false
set_option linter.unusedVariables false
set_option maxRecDepth 100000
end Go.Proofs.Ytmifoihfpjomaaa.F

-- F44
namespace Go.Proofs.Ytmifoihfpjomaaa.F
open Go.RowKit Go.Proofs.YtmifoihfpjomaaaW.PrintWords Go.Proofs.YtmifoihfpjomaaaW.PrintLast Go.Proofs.YtmifoihfpjomaaaW.PrintMore
attribute [local go_sem] max2_int min2_int max_two min_two max_three min_three max_four min_four   -- for this text's walks alone
set_option linter.unusedVariables false
set_option linter.unusedSimpArgs false

/-! ### strongroomref13_number: function 44 -/
def strongroomref13_number.f (k : Nat) (a0 : ByteArray) (a1 : Int) : Option (Int × Int × Bool) := (strongroomref01_Get.f k a0 a1).bind fun bt326 => (if bt326.1 > 4611686018427387904 then (some (4611686018427387904, bt326.2.1, (bt326.2.2 == 0))) else (some (wrap64 (bt326.1), bt326.2.1, (bt326.2.2 == 0))))
set_option maxHeartbeats 8000000 in
set_option maxRecDepth 100000 in
theorem strongroomref13_number.calls (k : Nat) (a0 : ByteArray) (a1 : Int) (r1 : Int) (r2 : Int) (r3 : Bool) (w : World) (h : strongroomref13_number.f k a0 a1 = some (r1, r2, r3)) :
    Calls Try.prog 44 #[.string a0, .int .i64 a1] w fun e w' => e = .returned (.tuple #[.int .i64 r1, .int .i64 r2, .bool r3]) ∧ Drawn0 w w' := by
  have H : ((strongroomref01_Get.f k a0 a1).bind fun bt326 => (if bt326.1 > 4611686018427387904 then (some (4611686018427387904, bt326.2.1, (bt326.2.2 == 0))) else (some (wrap64 (bt326.1), bt326.2.1, (bt326.2.2 == 0))))) = some (r1, r2, r3) := h
  clear h
  replace H := Option.bind_eq_some_iff.mp H
  obtain ⟨⟨t326, t327, t328⟩, A30, H⟩ := H
  replace H : (if t326 > 4611686018427387904 then (some (4611686018427387904, t327, (t328 == 0))) else (some (wrap64 (t326), t327, (t328 == 0)))) = some (r1, r2, r3) := H
  have A3 := Aside0.mk A30
  clear A30
  by_cases c4 : t326 > 4611686018427387904
  · rw [if_pos c4] at H
    have c4b0 : decide (4611686018427387904 < t326) = true := decide_eq_true c4
    clear c4
    simp only [Option.some.injEq, Prod.mk.injEq] at H
    obtain ⟨rfl, rfl, rfl⟩ := H
    go_enter Try.func44, Try.ntmps44
    go_wp2_with (first | ((with_reducible refine gate_callee (f := 57) rfl ?_); refine goesL_ (some 13) rfl rfl Try.func57 (by kernel_rfl) rfl #[.string a0, .int .i64 a1] rfl (by (try simp only [List.map_toArray, List.map_cons, List.map_nil]); first | done | rfl | (simp only [List.length_drop, List.length_take]; rfl)) ?_; (with_reducible refine (strongroomref01_Get.calls k a0 a1 t326 t327 t328 _ A3.out).mono ?_); rintro e w' ⟨rfl, ⟨nd, rfl⟩⟩; refine ⟨_, rfl, ?_⟩))
    go_ret3
    exact ⟨by first | rfl | (simp; done) | (simp [*]; done), by repeat (first | exact Drawn0.refl _ | apply Drawn0.step)⟩
  · rw [if_neg c4] at H
    have c4b0 : decide (4611686018427387904 < t326) = false := decide_eq_false c4
    clear c4
    simp only [Option.some.injEq, Prod.mk.injEq] at H
    obtain ⟨rfl, rfl, rfl⟩ := H
    go_enter Try.func44, Try.ntmps44
    go_wp2_with (first | ((with_reducible refine gate_callee (f := 57) rfl ?_); refine goesL_ (some 13) rfl rfl Try.func57 (by kernel_rfl) rfl #[.string a0, .int .i64 a1] rfl (by (try simp only [List.map_toArray, List.map_cons, List.map_nil]); first | done | rfl | (simp only [List.length_drop, List.length_take]; rfl)) ?_; (with_reducible refine (strongroomref01_Get.calls k a0 a1 t326 t327 t328 _ A3.out).mono ?_); rintro e w' ⟨rfl, ⟨nd, rfl⟩⟩; refine ⟨_, rfl, ?_⟩))
    go_ret3
    exact ⟨by first | rfl | (simp; done) | (simp [*]; done), by repeat (first | exact Drawn0.refl _ | apply Drawn0.step)⟩

-- NOT PRINTED: function 45 (strongroomref13_entry)

-- NOT PRINTED: function 28 (strongroomref13_Decode)

end Go.Proofs.Ytmifoihfpjomaaa.F

-- F43
namespace Go.Proofs.Ytmifoihfpjomaaa.F
open Go.RowKit Go.Proofs.YtmifoihfpjomaaaW.PrintWords Go.Proofs.YtmifoihfpjomaaaW.PrintLast Go.Proofs.YtmifoihfpjomaaaW.PrintMore
attribute [local go_sem] max2_int min2_int max_two min_two max_three min_three max_four min_four   -- for this text's walks alone
set_option linter.unusedVariables false
set_option linter.unusedSimpArgs false

/-! ### strongroomref01_GetText: function 43 -/
def strongroomref01_GetText.j0 : Nat → ByteArray → Int → Int → Int → Option (ByteArray × Int × Int)
  | 0, _, _, _, _ => none
  | k + 1, x0, x2, x9, x10 => if x9 > (IntKind.u64.wrap (x2)) then (some ((⟨#[]⟩ : ByteArray), 0, 2)) else (if x9 > (IntKind.u64.wrap (wrap64 ((x0.size : Int) - x10))) then (some ((⟨#[]⟩ : ByteArray), 0, 3)) else (if 0 ≤ x10 then (if x10 ≤ (wrap64 (x10 + (wrap64 (x9)))) then (if (wrap64 (x10 + (wrap64 (x9)))) ≤ (x0.size : Int) then (some (x0.extract (x10 : Int).toNat ((wrap64 (x10 + (wrap64 (x9)))) : Int).toNat, wrap64 (x10 + (wrap64 (x9))), 0)) else (none)) else (none)) else (none)))
def strongroomref01_GetText.f (k : Nat) (a0 : ByteArray) (a1 : Int) (a2 : Int) : Option (ByteArray × Int × Int) := (strongroomref01_Get.f k a0 a1).bind fun bt323 => (if bt323.2.2 = 0 then (if a2 < 0 then (strongroomref01_GetText.j0 k a0 0 bt323.1 bt323.2.1) else (strongroomref01_GetText.j0 k a0 a2 bt323.1 bt323.2.1)) else (some ((⟨#[]⟩ : ByteArray), 0, bt323.2.2)))
set_option maxHeartbeats 8000000 in
set_option maxRecDepth 100000 in
theorem strongroomref01_GetText.calls (k : Nat) (a0 : ByteArray) (a1 : Int) (a2 : Int) (r1 : ByteArray) (r2 : Int) (r3 : Int) (w : World) (h : strongroomref01_GetText.f k a0 a1 a2 = some (r1, r2, r3)) :
    Calls Try.prog 43 #[.string a0, .int .i64 a1, .int .i64 a2] w fun e w' => e = .returned (.tuple #[.string r1, .int .i64 r2, .int .i64 r3]) ∧ Drawn0 w w' := by
  have H : ((strongroomref01_Get.f k a0 a1).bind fun bt323 => (if bt323.2.2 = 0 then (if a2 < 0 then (strongroomref01_GetText.j0 k a0 0 bt323.1 bt323.2.1) else (strongroomref01_GetText.j0 k a0 a2 bt323.1 bt323.2.1)) else (some ((⟨#[]⟩ : ByteArray), 0, bt323.2.2)))) = some (r1, r2, r3) := h
  clear h
  replace H := Option.bind_eq_some_iff.mp H
  obtain ⟨⟨t323, t324, t325⟩, A40, H⟩ := H
  replace H : (if t325 = 0 then (if a2 < 0 then (strongroomref01_GetText.j0 k a0 0 t323 t324) else (strongroomref01_GetText.j0 k a0 a2 t323 t324)) else (some ((⟨#[]⟩ : ByteArray), 0, t325))) = some (r1, r2, r3) := H
  have A4 := Aside0.mk A40
  clear A40
  by_cases c5 : t325 = 0
  · rw [if_pos c5] at H
    have c5b0 : (t325 == 0) = true := beq_iff_eq.mpr c5
    have c5b1 : (t325 != 0) = false := bne_eq_false_iff_eq.mpr c5
    clear c5
    have HC6 := Aside0.mk H
    clear H
    go_enter Try.func43, Try.ntmps43
    go_upto_if 23 with (first | ((with_reducible refine gate_callee (f := 57) rfl ?_); refine goesL_ (some 15) rfl rfl Try.func57 (by kernel_rfl) rfl #[.string a0, .int .i64 a1] rfl (by (try simp only [List.map_toArray, List.map_cons, List.map_nil]); first | done | rfl | (simp only [List.length_drop, List.length_take]; rfl)) ?_; (with_reducible refine (strongroomref01_Get.calls k a0 a1 t323 t324 t325 _ A4.out).mono ?_); rintro e w' ⟨rfl, ⟨nd, rfl⟩⟩; refine ⟨_, rfl, ?_⟩))
    (try simp only [Act.put, List.setIfInBounds_toArray, List.set_cons_zero, List.set_cons_succ])
    go_cut [2] (fun v2 wc => ∃ (kq : Nat) (x2_5 : Int), v2 = .int .i64 x2_5 ∧ Aside0 (strongroomref01_GetText.j0 kq a0 x2_5 t323 t324 = some (r1, r2, r3)) ∧ Aside0 (kq ≤ k) ∧ Drawn0 w wc)
    case first =>
      have H := HC6.out
      clear HC6
      by_cases c7 : a2 < 0
      · rw [if_pos c7] at H
        have c7b0 : decide (a2 < 0) = true := decide_eq_true c7
        clear c7
        (first | rw [c7b0] | (simp only [i64_w, i32_w]; rw [c7b0]) | skip)
        have H' := Aside0.mk H
        clear H
        go_wp2
        go_meet
        case rel => exact ⟨_, (0), (by first | rfl | (simp; done) | (simp [*]; done)), H', ⟨by first | omega | exact Nat.le_refl _⟩, by repeat (first | exact Drawn0.refl _ | apply Drawn0.step)⟩
      · rw [if_neg c7] at H
        have c7b0 : decide (a2 < 0) = false := decide_eq_false c7
        clear c7
        (first | rw [c7b0] | (simp only [i64_w, i32_w]; rw [c7b0]) | skip)
        have H' := Aside0.mk H
        clear H
        go_wp2
        go_meet
        case rel => exact ⟨_, (a2), (by first | rfl | (simp; done) | (simp [*]; done)), H', ⟨by first | omega | exact Nat.le_refl _⟩, by repeat (first | exact Drawn0.refl _ | apply Drawn0.step)⟩
    case rest =>
      clear HC6
      try clear p2
      try clear c4
      try clear c5
      try clear c5b0
      try clear c5b1
      try clear c7
      try clear c7b0
      obtain ⟨kq, x2_5, rfl, HA, HJ5, ⟨mc5, rfl⟩⟩ := hcut
      cases kq with
      | zero => exact absurd HA.out (by simp [strongroomref01_GetText.j0])
      | succ kj5 =>
        have H := HA.out
        clear HA
        simp only [strongroomref01_GetText.j0] at H
        by_cases c8 : t323 > (IntKind.u64.wrap (x2_5))
        · rw [if_pos c8] at H
          have c8b0 : decide ((IntKind.u64.wrap (x2_5)) < t323) = true := decide_eq_true c8
          clear c8
          simp only [Option.some.injEq, Prod.mk.injEq] at H
          obtain ⟨rfl, rfl, rfl⟩ := H
          go_wp2
          go_ret3
          exact ⟨by first | rfl | (simp; done) | (simp [*]; done), by repeat (first | exact Drawn0.refl _ | apply Drawn0.step)⟩
        · rw [if_neg c8] at H
          have c8b0 : decide ((IntKind.u64.wrap (x2_5)) < t323) = false := decide_eq_false c8
          clear c8
          by_cases c9 : t323 > (IntKind.u64.wrap (wrap64 ((a0.size : Int) - t324)))
          · rw [if_pos c9] at H
            have c9b0 : decide ((IntKind.u64.wrap (wrap64 ((a0.size : Int) - t324))) < t323) = true := decide_eq_true c9
            clear c9
            simp only [Option.some.injEq, Prod.mk.injEq] at H
            obtain ⟨rfl, rfl, rfl⟩ := H
            go_wp2
            go_ret3
            exact ⟨by first | rfl | (simp; done) | (simp [*]; done), by repeat (first | exact Drawn0.refl _ | apply Drawn0.step)⟩
          · rw [if_neg c9] at H
            have c9b0 : decide ((IntKind.u64.wrap (wrap64 ((a0.size : Int) - t324))) < t323) = false := decide_eq_false c9
            clear c9
            by_cases c10 : 0 ≤ t324
            · rw [if_pos c10] at H
              have c10b0 := eq_true c10
              have c10b1 : decide (0 ≤ t324) = true := decide_eq_true c10
              clear c10
              by_cases c11 : t324 ≤ (wrap64 (t324 + (wrap64 (t323))))
              · rw [if_pos c11] at H
                have c11b0 := eq_true c11
                have c11b1 : decide (t324 ≤ (wrap64 (t324 + (wrap64 (t323))))) = true := decide_eq_true c11
                by_cases c12 : (wrap64 (t324 + (wrap64 (t323)))) ≤ (a0.size : Int)
                · rw [if_pos c12] at H
                  have c12b0 := eq_true c12
                  have c12b1 : decide ((wrap64 (t324 + (wrap64 (t323)))) ≤ (a0.size : Int)) = true := decide_eq_true c12
                  simp only [Option.some.injEq, Prod.mk.injEq] at H
                  obtain ⟨rfl, rfl, rfl⟩ := H
                  go_wp2
                  go_ret3
                  exact ⟨by first | rfl | (simp; done) | (simp [*]; done), by repeat (first | exact Drawn0.refl _ | apply Drawn0.step)⟩
                · rw [if_neg c12] at H
                  exact absurd H (by simp)
              · rw [if_neg c11] at H
                exact absurd H (by simp)
            · rw [if_neg c10] at H
              exact absurd H (by simp)
  · rw [if_neg c5] at H
    have c5b0 : (t325 == 0) = false := beq_eq_false_iff_ne.mpr c5
    have c5b1 : (t325 != 0) = true := bne_iff_ne.mpr c5
    simp only [Option.some.injEq, Prod.mk.injEq] at H
    obtain ⟨rfl, rfl, rfl⟩ := H
    go_enter Try.func43, Try.ntmps43
    go_wp2_with (first | ((with_reducible refine gate_callee (f := 57) rfl ?_); refine goesL_ (some 15) rfl rfl Try.func57 (by kernel_rfl) rfl #[.string a0, .int .i64 a1] rfl (by (try simp only [List.map_toArray, List.map_cons, List.map_nil]); first | done | rfl | (simp only [List.length_drop, List.length_take]; rfl)) ?_; (with_reducible refine (strongroomref01_Get.calls k a0 a1 t323 t324 t325 _ A4.out).mono ?_); rintro e w' ⟨rfl, ⟨nd, rfl⟩⟩; refine ⟨_, rfl, ?_⟩))
    go_ret3
    exact ⟨by first | rfl | (simp; done) | (simp [*]; done), by repeat (first | exact Drawn0.refl _ | apply Drawn0.step)⟩

end Go.Proofs.Ytmifoihfpjomaaa.F

-- AudB
namespace Go.Proofs.Ytmifoihfpjomaaa.F
open Go Go.RowKit Go.Proofs.YtmifoihfpjomaaaW.PrintWords Go.Proofs.YtmifoihfpjomaaaW.PrintLast Go.Proofs.YtmifoihfpjomaaaW.PrintMore Go.Proofs.YtmifoihfpjomaaaM Go.Proofs.YtmifoihfpjomaaaR
attribute [local go_sem] max2_int min2_int max_two min_two
set_option linter.unusedSimpArgs false
set_option linter.unusedVariables false
set_option maxRecDepth 100000
/-- what a reader at a place still reads -/
def stR (l : List Int) (a : Nat) (bad : Bool) : Option (List Int) := cond bad none (some (l.drop a))
/-- a reader in memory -/
def RdB (w : World) (g : Nat) (A : Option Addr) (c : Nat) (l : List Int) (s : Option (List Int)) : Prop :=
  ∃ (a : Nat) (bad : Bool), a ≤ l.length ∧ Blk w g 68 [.slice A l.length c, .int .i64 (a : Int), .bool bad] ∧ s = stR l a bad
theorem RdB.grew {w w' : World} {g : Nat} {A : Option Addr} {c : Nat} {l : List Int} {s : Option (List Int)} (h : RdB w g A c l s) (hg : Grew w w') : RdB w' g A c l s := by
  obtain ⟨a, bad, h1, h2, h3⟩ := h
  exact ⟨a, bad, h1, h2.grew hg, h3⟩
theorem RdB.upd {S : Nat → Prop} {w w' : World} {g : Nat} {A : Option Addr} {c : Nat} {l : List Int} {s : Option (List Int)} (h : RdB w g A c l s) (hu : Upd S w w') (hn : ¬ S g) : RdB w' g A c l s := by
  obtain ⟨a, bad, h1, h2, h3⟩ := h
  exact ⟨a, bad, h1, h2.upd hu hn, h3⟩
theorem capN_if (n : Nat) : (if (4611686018427387904 : Int) < (n : Int) then (4611686018427387904 : Int) else (n : Int)) = capN n := by unfold capN; split <;> omega
theorem capN_if2 (n : Nat) : (if (n : Int) < (4611686018427387904 : Int) then (n : Int) else (4611686018427387904 : Int)) = capN n := by unfold capN; split <;> omega
theorem capN_bnd (n : Nat) : 0 ≤ capN n ∧ capN n ≤ 4611686018427387904 := by unfold capN; omega
set_option maxHeartbeats 8000000 in
theorem number_c (w0 w : World) (g : Nat) (A : Option Addr) (c : Nat) (l : List Int) (s : Option (List Int)) (hr : Kd.C (Kd.int .u8) w0 A l.length l) (hc : l.length ≤ c) (hl : l.length ≤ 100000) (hb : By l) (hg0 : Grew w0 w) (hB : RdB w g A c l s) :
    Calls Try.prog 42 #[.pointer (some ⟨g, 0, none⟩)] w (Does (fun j => j = g) w (fun w' v => v = .int .i64 (numQ s).1 ∧ RdB w' g A c l (numQ s).2)) := by
  obtain ⟨a, bad, ha, hbl, hs⟩ := hB
  have hget := fun wx (h : Grew w wx) => get_c A c l (a : Int) wx (Kd.C_below hr (Grew.trans hg0 h)) hc (by omega) hb
  rcases hq : getL l (a : Int) with ⟨q1, q2, q3⟩
  rw [hq] at hget
  obtain ⟨n, hn⟩ : ∃ n, n = l.length := ⟨_, rfl⟩
  rw [← hn] at hget hbl
  have HGET := Lib.hid hget
  have HBL := Lib.hid hbl
  have HB := Lib.hid (fun wx (h : Grew w wx) => And.intro ((hbl.grew h).at_ 0) (And.intro ((hbl.grew h).at_ 1) ((hbl.grew h).at_ 2)))
  simp only [List.getElem?_cons_zero, List.getElem?_cons_succ] at HB
  have HN := Lib.hid hn
  have HQ := Lib.hid hq
  have HS := Lib.hid hs
  clear hget hbl hr hn hq hs hg0
  have done_bad : ∀ wx : World, Grew w wx → Does (fun j => j = g) w (fun w' v => v = .int .i64 0 ∧ RdB w' g A c l none) (.returned (.int .i64 0)) (wx.setCell ⟨g, 2, none⟩ (.bool true)) := fun wx h =>
    ⟨_, rfl, ⟨rfl, a, true, ha, by rw [← HN.out]; exact (HBL.out.grew h).set 2 (.bool true), rfl⟩, Upd.set (S := fun j => j = g) (p := ⟨g, 2, none⟩) (Upd.of_grew h) (.inl rfl) _⟩
  have HDB := Lib.hid done_bad
  clear done_bad
  obtain ⟨R, hR⟩ : ∃ R, R = numQ s := ⟨_, rfl⟩
  rw [← hR]
  have HRE := Lib.hid hR
  clear hR
  go_enter Try.func42, Try.ntmps42
  go_wp2_with fail
  apply region_grew [Is _, Is _, Is _, Is _, Is _, Is _, Is _, Is _, Is _, Is _, Is _, Is _, Is _, Is _, Is _] [([(0, none)], none), ([(7, some 0)], none), ([(8, some 1)], none), ([(9, some 2)], none), ([(0, none)], none), ([(11, some 4)], none), ([(12, some 5)], none), ([(13, some 6)], none), ([(10, some 3), (14, some 7)], none), ([(15, some 8)], none), ([(6, some 9)], none), ([(6, some 9)], none), ([(6, some 9)], none), ([(16, some 10)], none), ([(17, some 11)], none)] [(3, 13), (4, 14), (6, 9), (7, 0), (8, 1), (9, 2), (10, 3), (11, 4), (12, 5), (13, 6), (14, 7), (15, 8), (16, 10), (17, 11), (18, 12)] rfl (by kernel_rfl) (by kernel_rfl) (show Stable Grew _ from ⟨Is.stable _, Is.stable _, Is.stable _, Is.stable _, Is.stable _, Is.stable _, Is.stable _, Is.stable _, Is.stable _, Is.stable _, Is.stable _, Is.stable _, Is.stable _, Is.stable _, Is.stable _, trivial⟩)
  · show OpsHold _ _ _ _ _ _ _ _ _
    refine ⟨fun a_ wx hR hD K hK => ?_, ?_⟩
    · have hG : Grew w wx := (Grew.drew _).trans hR
      simp [Deps, Dep, at_, Is] at hD
      go_simp
      exact hK _ _ (Grew.refl _) rfl
    refine ⟨fun a_ wx hR hD K hK => ?_, ?_⟩
    · have hG : Grew w wx := (Grew.drew _).trans hR
      simp [Deps, Dep, at_, Is] at hD
      go_simp
      exact hK _ _ (Grew.refl _) rfl
    refine ⟨fun a_ wx hR hD K hK => ?_, ?_⟩
    · have hG : Grew w wx := (Grew.drew _).trans hR
      simp [Deps, Dep, at_, Is] at hD
      go_simp
      exact hK _ _ (Grew.refl _) rfl
    refine ⟨fun a_ wx hR hD K hK => ?_, ?_⟩
    · have hG : Grew w wx := (Grew.drew _).trans hR
      simp [Deps, Dep, at_, Is] at hD
      obtain ⟨e0, e1, e2⟩ := HB.out wx hG
      go_simp
      exact hK _ _ (Grew.refl _) rfl
    refine ⟨fun a_ wx hR hD K hK => ?_, ?_⟩
    · have hG : Grew w wx := (Grew.drew _).trans hR
      simp [Deps, Dep, at_, Is] at hD
      go_simp
      exact hK _ _ (Grew.refl _) rfl
    refine ⟨fun a_ wx hR hD K hK => ?_, ?_⟩
    · have hG : Grew w wx := (Grew.drew _).trans hR
      simp [Deps, Dep, at_, Is] at hD
      go_simp
      exact hK _ _ (Grew.refl _) rfl
    refine ⟨fun a_ wx hR hD K hK => ?_, ?_⟩
    · have hG : Grew w wx := (Grew.drew _).trans hR
      simp [Deps, Dep, at_, Is] at hD
      go_simp
      exact hK _ _ (Grew.refl _) rfl
    refine ⟨fun a_ wx hR hD K hK => ?_, ?_⟩
    · have hG : Grew w wx := (Grew.drew _).trans hR
      simp [Deps, Dep, at_, Is] at hD
      obtain ⟨e0, e1, e2⟩ := HB.out wx hG
      go_simp
      exact hK _ _ (Grew.refl _) rfl
    refine ⟨fun a_ wx hR hD K hK => ?_, ?_⟩
    · have hG : Grew w wx := (Grew.drew _).trans hR
      simp [Deps, Dep, at_, Is] at hD
      obtain ⟨hd0, hd1⟩ := hD
      go_simp
      have hcn := HGET.out wx hG
      with_reducible refine hcn.mono ?_
      clear hcn
      rintro e wy ⟨v, rfl, hv, hg⟩
      exact hK _ _ hg hv
    refine ⟨fun a_ wx hR hD K hK => ?_, ?_⟩
    · have hG : Grew w wx := (Grew.drew _).trans hR
      simp [Deps, Dep, at_, Is] at hD
      go_simp
      exact hK _ _ (Grew.refl _) rfl
    refine ⟨fun a_ wx hR hD K hK => ?_, ?_⟩
    · have hG : Grew w wx := (Grew.drew _).trans hR
      simp [Deps, Dep, at_, Is] at hD
      go_simp
      exact hK _ _ (Grew.refl _) rfl
    refine ⟨fun a_ wx hR hD K hK => ?_, ?_⟩
    · have hG : Grew w wx := (Grew.drew _).trans hR
      simp [Deps, Dep, at_, Is] at hD
      go_simp
      exact hK _ _ (Grew.refl _) rfl
    refine ⟨fun a_ wx hR hD K hK => ?_, ?_⟩
    · have hG : Grew w wx := (Grew.drew _).trans hR
      simp [Deps, Dep, at_, Is] at hD
      go_simp
      exact hK _ _ (Grew.refl _) rfl
    refine ⟨fun a_ wx hR hD K hK => ?_, ?_⟩
    · have hG : Grew w wx := (Grew.drew _).trans hR
      simp [Deps, Dep, at_, Is] at hD
      go_simp
      exact hK _ _ (Grew.refl _) rfl
    refine ⟨fun a_ wx hR hD K hK => ?_, ?_⟩
    · have hG : Grew w wx := (Grew.drew _).trans hR
      simp [Deps, Dep, at_, Is] at hD
      go_simp
      exact hK _ _ (Grew.refl _) rfl
    trivial
  · show EndHold _ _ _ _ _ _ _
    refine end_all (xs := [_, _, _, _, _, _, _, _, _, _, _, _, _, _, _]) ⟨rfl, rfl, rfl, rfl, rfl, rfl, rfl, rfl, rfl, rfl, rfl, rfl, rfl, rfl, rfl, trivial⟩ ?_
    rintro w1 hR1 -
    refine ⟨?_⟩
    have hG_w1 : Grew w w1 := (Grew.drew _).trans hR1
    clear hR1
    simp only [Act.put, List.setIfInBounds_toArray, List.set_cons_succ, List.set_cons_zero, dropN, putEach]
    obtain ⟨c0, c1, c2⟩ := HB.out w1 hG_w1
    have z1 := (HBL.out.grew hG_w1).fz 1
    have z2 := (HBL.out.grew hG_w1).fz 2
    cases bad with
    | true =>
      have hres : R = (0, none) := by rw [HRE.out, HS.out]; rfl
      subst hres
      go_wp2_with fail
      go_ret
      exact HDB.out w1 hG_w1
    | false =>
      cases hp : pNum (l.drop a) with
      | none =>
        have he := getL_none ha hp
        rw [HQ.out] at he
        simp only at he
        have e1 : (q3 != 0) = true := by simpa using he
        have e2 : (q3 == 0) = false := by simpa using he
        have hres : R = (0, none) := by rw [HRE.out, HS.out]; unfold numQ stR; simp only [cond_false, Option.bind_some]; rw [hp]
        subst hres
        clear he hp
        go_wp2_with fail
        go_ret
        exact HDB.out w1 hG_w1
      | some q =>
        obtain ⟨k, r⟩ := q
        obtain ⟨g1, g2, g3, g4, g5⟩ := getL_some hb ha hp
        rw [HQ.out] at g1
        obtain ⟨h1, g1⟩ := Prod.mk.inj g1
        obtain ⟨h2, h3⟩ := Prod.mk.inj g1
        subst h1 h2 h3
        have hres : R = (capN k, some r) := by rw [HRE.out, HS.out]; unfold numQ stR; simp only [cond_false, Option.bind_some]; rw [hp]
        subst hres
        have m1 := capN_if k
        have m2 := capN_if2 k
        obtain ⟨v0, v1⟩ := capN_bnd k
        obtain ⟨cv, hcv⟩ : ∃ cv, cv = capN k := ⟨_, rfl⟩
        rw [← hcv] at m1 m2 v0 v1
        have HCV := Lib.hid hcv
        obtain ⟨at2, ha2⟩ : ∃ at2, at2 = l.length - r.length := ⟨_, rfl⟩
        rw [← ha2] at g3 g4
        have HA2 := Lib.hid (And.intro g3 g4)
        have HAE := Lib.hid ha2
        have wc : IntKind.i64.wrap cv = cv := IntWalk.i64_in _ (by omega)
        clear hp g1 g2 g3 g4 g5 hcv ha2
        have e1 : ((0 : Int) != 0) = false := rfl
        go_wp2_with fail
        go_ret
        exact ⟨_, rfl, ⟨congrArg (Value.int .i64) HCV.out, at2, false, HA2.out.1, by
          have h := (HBL.out.grew hG_w1).set 1 (.int .i64 ((l.length - r.length : Nat) : Int))
          rw [HN.out] at h
          rw [HAE.out]
          exact h, by show some r = some (l.drop at2); rw [HA2.out.2]⟩, Upd.set (S := fun j => j = g) (p := ⟨g, 1, none⟩) (Upd.of_grew hG_w1) (.inl rfl) _⟩
set_option maxHeartbeats 8000000 in
theorem text_c (w0 w : World) (g most : Nat) (hm : most ≤ 1000) (A : Option Addr) (c : Nat) (l : List Int) (s : Option (List Int)) (hr : Kd.C (Kd.int .u8) w0 A l.length l) (hc : l.length ≤ c) (hl : l.length ≤ 100000) (hb : By l) (hg0 : Grew w0 w) (hB : RdB w g A c l s) :
    Calls Try.prog 41 #[.pointer (some ⟨g, 0, none⟩), .int .i64 (most : Int)] w (Does (fun j => j = g) w (fun w' v => v = .string (strOfNums (textQ most s).1) ∧ RdB w' g A c l (textQ most s).2)) := by
  obtain ⟨a, bad, ha, hbl, hs⟩ := hB
  have hget := fun wx (h : Grew w wx) => getT_c A c l (a : Int) (most : Int) wx (Kd.C_below hr (Grew.trans hg0 h)) hc (by omega) hb (by omega) (by omega)
  rcases hq : getT l (a : Int) (most : Int) with ⟨q1, q2, q3⟩
  rw [hq] at hget
  obtain ⟨n, hn⟩ : ∃ n, n = l.length := ⟨_, rfl⟩
  rw [← hn] at hget hbl
  have HGET := Lib.hid hget
  have HBL := Lib.hid hbl
  have HB := Lib.hid (fun wx (h : Grew w wx) => And.intro ((hbl.grew h).at_ 0) (And.intro ((hbl.grew h).at_ 1) ((hbl.grew h).at_ 2)))
  simp only [List.getElem?_cons_zero, List.getElem?_cons_succ] at HB
  have HN := Lib.hid hn
  have HQ := Lib.hid hq
  have HS := Lib.hid hs
  clear hget hbl hr hn hq hs hg0
  have done_bad : ∀ wx : World, Grew w wx → Does (fun j => j = g) w (fun w' v => v = .string (strOfNums []) ∧ RdB w' g A c l none) (.returned (.string (strOfNums []))) (wx.setCell ⟨g, 2, none⟩ (.bool true)) := fun wx h =>
    ⟨_, rfl, ⟨rfl, a, true, ha, by rw [← HN.out]; exact (HBL.out.grew h).set 2 (.bool true), rfl⟩, Upd.set (S := fun j => j = g) (p := ⟨g, 2, none⟩) (Upd.of_grew h) (.inl rfl) _⟩
  have HDB := Lib.hid done_bad
  clear done_bad
  obtain ⟨R, hR⟩ : ∃ R, R = textQ most s := ⟨_, rfl⟩
  rw [← hR]
  have HRE := Lib.hid hR
  clear hR
  go_enter Try.func41, Try.ntmps41
  go_wp2_with fail
  apply region_grew [Is _, Is _, Is _, Is _, Is _, Is _, Is _, Is _, Is _, Is _, Is _, Is _, Is _, Is _, Is _, Is _] [([(0, none)], none), ([(9, some 0)], none), ([(10, some 1)], none), ([(11, some 2)], none), ([(0, none)], none), ([(13, some 4)], none), ([(14, some 5)], none), ([(15, some 6)], none), ([(1, none)], none), ([(12, some 3), (16, some 7), (17, some 8)], none), ([(18, some 9)], none), ([(8, some 10)], none), ([(8, some 10)], none), ([(8, some 10)], none), ([(19, some 11)], none), ([(20, some 12)], none)] [(5, 14), (6, 15), (8, 10), (9, 0), (10, 1), (11, 2), (12, 3), (13, 4), (14, 5), (15, 6), (16, 7), (17, 8), (18, 9), (19, 11), (20, 12), (21, 13)] rfl (by kernel_rfl) (by kernel_rfl) (show Stable Grew _ from ⟨Is.stable _, Is.stable _, Is.stable _, Is.stable _, Is.stable _, Is.stable _, Is.stable _, Is.stable _, Is.stable _, Is.stable _, Is.stable _, Is.stable _, Is.stable _, Is.stable _, Is.stable _, Is.stable _, trivial⟩)
  · show OpsHold _ _ _ _ _ _ _ _ _
    refine ⟨fun a_ wx hR hD K hK => ?_, ?_⟩
    · have hG : Grew w wx := (Grew.drew _).trans hR
      simp [Deps, Dep, at_, Is] at hD
      go_simp
      exact hK _ _ (Grew.refl _) rfl
    refine ⟨fun a_ wx hR hD K hK => ?_, ?_⟩
    · have hG : Grew w wx := (Grew.drew _).trans hR
      simp [Deps, Dep, at_, Is] at hD
      go_simp
      exact hK _ _ (Grew.refl _) rfl
    refine ⟨fun a_ wx hR hD K hK => ?_, ?_⟩
    · have hG : Grew w wx := (Grew.drew _).trans hR
      simp [Deps, Dep, at_, Is] at hD
      go_simp
      exact hK _ _ (Grew.refl _) rfl
    refine ⟨fun a_ wx hR hD K hK => ?_, ?_⟩
    · have hG : Grew w wx := (Grew.drew _).trans hR
      simp [Deps, Dep, at_, Is] at hD
      obtain ⟨e0, e1, e2⟩ := HB.out wx hG
      go_simp
      exact hK _ _ (Grew.refl _) rfl
    refine ⟨fun a_ wx hR hD K hK => ?_, ?_⟩
    · have hG : Grew w wx := (Grew.drew _).trans hR
      simp [Deps, Dep, at_, Is] at hD
      go_simp
      exact hK _ _ (Grew.refl _) rfl
    refine ⟨fun a_ wx hR hD K hK => ?_, ?_⟩
    · have hG : Grew w wx := (Grew.drew _).trans hR
      simp [Deps, Dep, at_, Is] at hD
      go_simp
      exact hK _ _ (Grew.refl _) rfl
    refine ⟨fun a_ wx hR hD K hK => ?_, ?_⟩
    · have hG : Grew w wx := (Grew.drew _).trans hR
      simp [Deps, Dep, at_, Is] at hD
      go_simp
      exact hK _ _ (Grew.refl _) rfl
    refine ⟨fun a_ wx hR hD K hK => ?_, ?_⟩
    · have hG : Grew w wx := (Grew.drew _).trans hR
      simp [Deps, Dep, at_, Is] at hD
      obtain ⟨e0, e1, e2⟩ := HB.out wx hG
      go_simp
      exact hK _ _ (Grew.refl _) rfl
    refine ⟨fun a_ wx hR hD K hK => ?_, ?_⟩
    · have hG : Grew w wx := (Grew.drew _).trans hR
      simp [Deps, Dep, at_, Is] at hD
      go_simp
      exact hK _ _ (Grew.refl _) rfl
    refine ⟨fun a_ wx hR hD K hK => ?_, ?_⟩
    · have hG : Grew w wx := (Grew.drew _).trans hR
      simp [Deps, Dep, at_, Is] at hD
      obtain ⟨hd0, hd1, hd2⟩ := hD
      go_simp
      have hcn := HGET.out wx hG
      with_reducible refine hcn.mono ?_
      clear hcn
      rintro e wy ⟨v, rfl, hv, hg⟩
      exact hK _ _ hg hv
    refine ⟨fun a_ wx hR hD K hK => ?_, ?_⟩
    · have hG : Grew w wx := (Grew.drew _).trans hR
      simp [Deps, Dep, at_, Is] at hD
      go_simp
      exact hK _ _ (Grew.refl _) rfl
    refine ⟨fun a_ wx hR hD K hK => ?_, ?_⟩
    · have hG : Grew w wx := (Grew.drew _).trans hR
      simp [Deps, Dep, at_, Is] at hD
      go_simp
      exact hK _ _ (Grew.refl _) rfl
    refine ⟨fun a_ wx hR hD K hK => ?_, ?_⟩
    · have hG : Grew w wx := (Grew.drew _).trans hR
      simp [Deps, Dep, at_, Is] at hD
      go_simp
      exact hK _ _ (Grew.refl _) rfl
    refine ⟨fun a_ wx hR hD K hK => ?_, ?_⟩
    · have hG : Grew w wx := (Grew.drew _).trans hR
      simp [Deps, Dep, at_, Is] at hD
      go_simp
      exact hK _ _ (Grew.refl _) rfl
    refine ⟨fun a_ wx hR hD K hK => ?_, ?_⟩
    · have hG : Grew w wx := (Grew.drew _).trans hR
      simp [Deps, Dep, at_, Is] at hD
      go_simp
      exact hK _ _ (Grew.refl _) rfl
    refine ⟨fun a_ wx hR hD K hK => ?_, ?_⟩
    · have hG : Grew w wx := (Grew.drew _).trans hR
      simp [Deps, Dep, at_, Is] at hD
      go_simp
      exact hK _ _ (Grew.refl _) rfl
    trivial
  · show EndHold _ _ _ _ _ _ _
    refine end_all (xs := [_, _, _, _, _, _, _, _, _, _, _, _, _, _, _, _]) ⟨rfl, rfl, rfl, rfl, rfl, rfl, rfl, rfl, rfl, rfl, rfl, rfl, rfl, rfl, rfl, rfl, trivial⟩ ?_
    rintro w1 hR1 -
    refine ⟨?_⟩
    have hG_w1 : Grew w w1 := (Grew.drew _).trans hR1
    clear hR1
    simp only [Act.put, List.setIfInBounds_toArray, List.set_cons_succ, List.set_cons_zero, dropN, putEach]
    obtain ⟨c0, c1, c2⟩ := HB.out w1 hG_w1
    have z1 := (HBL.out.grew hG_w1).fz 1
    have z2 := (HBL.out.grew hG_w1).fz 2
    cases bad with
    | true =>
      have hres : R = ([], none) := by rw [HRE.out, HS.out]; rfl
      subst hres
      go_wp2_with fail
      go_ret
      exact HDB.out w1 hG_w1
    | false =>
      cases hp : pText most (l.drop a) with
      | none =>
        have he := getT_none hb ha hp
        rw [HQ.out] at he
        simp only at he
        have e1 : (q3 != 0) = true := by simpa using he
        have e2 : (q3 == 0) = false := by simpa using he
        have hres : R = ([], none) := by rw [HRE.out, HS.out]; unfold textQ stR; simp only [cond_false, Option.bind_some]; rw [hp]
        subst hres
        clear he hp
        go_wp2_with fail
        go_ret
        exact HDB.out w1 hG_w1
      | some q =>
        obtain ⟨k, r⟩ := q
        obtain ⟨g1, g2, g3, g4⟩ := getT_some hb ha hp
        rw [HQ.out] at g1
        obtain ⟨h1, g1⟩ := Prod.mk.inj g1
        obtain ⟨h2, h3⟩ := Prod.mk.inj g1
        subst h1 h2 h3
        have hres : R = (q1, some r) := by rw [HRE.out, HS.out]; unfold textQ stR; simp only [cond_false, Option.bind_some]; rw [hp]
        subst hres
        obtain ⟨cv, hcv⟩ : ∃ cv, cv = strOfNums q1 := ⟨_, rfl⟩
        rw [← hcv] at HGET
        have HCV := Lib.hid hcv
        obtain ⟨at2, ha2⟩ : ∃ at2, at2 = l.length - r.length := ⟨_, rfl⟩
        rw [← ha2] at g3 g4
        have HA2 := Lib.hid (And.intro g3 g4)
        have HAE := Lib.hid ha2
        clear hp g1 g2 g3 g4 hcv ha2
        have e1 : ((0 : Int) != 0) = false := rfl
        go_wp2_with fail
        go_ret
        exact ⟨_, rfl, ⟨rfl, at2, false, HA2.out.1, by
          have h := (HBL.out.grew hG_w1).set 1 (.int .i64 ((l.length - r.length : Nat) : Int))
          rw [HN.out] at h
          rw [HAE.out]
          exact h, by show some r = some (l.drop at2); rw [HA2.out.2]⟩, Upd.set (S := fun j => j = g) (p := ⟨g, 1, none⟩) (Upd.of_grew hG_w1) (.inl rfl) _⟩
/-- the document's next number, and the place behind it -/
def rnumV (l : List Int) (a : Nat) : Int × Int × Bool :=
  match pNum (l.drop a) with
  | some (n, r) => (capN n, ((l.length - r.length : Nat) : Int), true)
  | none => (0, 0, false)
theorem rnumber_f (s : ByteArray) (l : List Int) (hsl : bytesOf s = l) (hl : l.length ≤ 100000) (hb : By l) (a : Nat) (ha : a ≤ l.length) : strongroomref13_number.f 24 s (a : Int) = some (rnumV l a) := by
  have hsz : s.size = l.length := by rw [← hsl, bytesOf_length]
  unfold strongroomref13_number.f rnumV
  rw [rget_f s (by omega) (a : Int), obs, hsl]
  cases hp : pNum (l.drop a) with
  | none =>
    have he := getL_none ha hp
    obtain ⟨h1, h2⟩ := getL_err he
    rw [h1, h2, if_neg (by omega), beq_eq_false_iff_ne.2 he, w64 (by omega) (by omega)]
  | some q =>
    obtain ⟨k, r⟩ := q
    obtain ⟨g1, g2, g3, g4, g5⟩ := getL_some hb ha hp
    rw [g1]
    simp only
    have hc := capN_if k
    by_cases h : (k : Int) > 4611686018427387904
    · rw [if_pos h]
      rw [if_pos (show (4611686018427387904 : Int) < (k : Int) from h)] at hc
      rw [← hc]; rfl
    · rw [if_neg h]
      rw [if_neg (show ¬ (4611686018427387904 : Int) < (k : Int) from h)] at hc
      rw [← hc, w64 (by omega) (by omega)]; rfl
theorem rnumber_c (s : ByteArray) (l : List Int) (hsl : bytesOf s = l) (hl : l.length ≤ 100000) (hb : By l) (a : Nat) (ha : a ≤ l.length) (w : World) :
    Calls Try.prog 44 #[.string s, .int .i64 (a : Int)] w (Tells w (Is (.tuple #[.int .i64 (rnumV l a).1, .int .i64 (rnumV l a).2.1, .bool (rnumV l a).2.2]))) :=
  tells_is ((strongroomref13_number.calls 24 s (a : Int) _ _ _ w (rnumber_f s l hsl hl hb a ha)).mono fun _ _ ⟨h, k⟩ => ⟨h, drawn_below k⟩)
theorem rgetT_f (s : ByteArray) (hs : s.size ≤ 140737488351232) (a most : Int) (hm1 : most ≤ 9223372036854775807) : strongroomref01_GetText.f 24 s a most = some (strOfNums (getT (bytesOf s) a most).1, (getT (bytesOf s) a most).2.1, (getT (bytesOf s) a most).2.2) := by
  unfold strongroomref01_GetText.f
  rw [rget_f s hs a, obs]
  have hsl := bytesOf_length s
  by_cases he : (getL (bytesOf s) a).2.2 = 0
  · rw [if_pos he]
    obtain ⟨m, n, rfl, hn, hq, hle, _⟩ := getL_ok (bytesOf_byte s) he
    generalize m + (putL n).length = K at *
    have key : ∀ M : Int, M = max most 0 → strongroomref01_GetText.j0 24 s M (getL (bytesOf s) m).1 (getL (bytesOf s) m).2.1 = some (strOfNums (getT (bytesOf s) m most).1, (getT (bytesOf s) m most).2.1, (getT (bytesOf s) m most).2.2) := by
      intro M hM
      unfold getT
      rw [hq]
      simp only [strongroomref01_GetText.j0]
      rw [if_neg (show ¬ ((0 : Int) ≠ 0) from fun h => h rfl)]
      rw [u64_wraps M (by omega) (by omega)]
      by_cases h1 : (n : Int) > M
      · rw [if_pos h1, if_pos (show max most 0 < (n : Int) from by omega)]; rfl
      · rw [if_neg h1, if_neg (show ¬ max most 0 < (n : Int) from by omega), w64 (x := (s.size : Int) - (K : Int)) (by omega) (by omega), u64_wraps ((s.size : Int) - (K : Int)) (by omega) (by omega)]
        by_cases h2 : (n : Int) > (s.size : Int) - (K : Int)
        · rw [if_pos h2, if_pos (show ((bytesOf s).length : Int) - (K : Int) < (n : Int) from by omega)]; rfl
        · rw [if_neg h2, if_neg (show ¬ ((bytesOf s).length : Int) - (K : Int) < (n : Int) from by omega), w64 (x := (n : Int)) (by omega) (by omega), w64 (x := (K : Int) + (n : Int)) (by omega) (by omega), if_pos (show (0 : Int) ≤ (K : Int) from by omega), if_pos (show (K : Int) ≤ (K : Int) + (n : Int) from by omega), if_pos (show (K : Int) + (n : Int) ≤ (s.size : Int) from by omega)]
          rw [strN_extract s _ _ (by omega)]
    by_cases hm : most < 0
    · rw [if_pos hm]; exact key 0 (by omega)
    · rw [if_neg hm]; exact key most (by omega)
  · rw [if_neg he]
    unfold getT
    simp only
    rw [if_pos he]; rfl
theorem rgetT_c (s : ByteArray) (a most : Int) (w : World) (hs : s.size ≤ 140737488351232) (hm1 : most ≤ 9223372036854775807) :
    Calls Try.prog 43 #[.string s, .int .i64 a, .int .i64 most] w (Tells w (Is (.tuple #[.string (strOfNums (getT (bytesOf s) a most).1), .int .i64 (getT (bytesOf s) a most).2.1, .int .i64 (getT (bytesOf s) a most).2.2]))) :=
  tells_is ((strongroomref01_GetText.calls 24 s a most _ _ _ w (rgetT_f s hs a most hm1)).mono fun _ _ ⟨h, k⟩ => ⟨h, drawn_below k⟩)
end Go.Proofs.Ytmifoihfpjomaaa.F

-- AudI
namespace Go.Proofs.Ytmifoihfpjomaaa.F
open Go Go.RowKit Go.Proofs.YtmifoihfpjomaaaW.PrintWords Go.Proofs.YtmifoihfpjomaaaW.PrintLast Go.Proofs.YtmifoihfpjomaaaW.PrintMore Go.Proofs.YtmifoihfpjomaaaM Go.Proofs.YtmifoihfpjomaaaR
attribute [local go_sem] max2_int min2_int max_two min_two
set_option linter.unusedSimpArgs false
set_option linter.unusedVariables false
set_option maxRecDepth 100000
theorem results_ctt {P : Program} {fn : Func} {p u v : Tmp} {ty : TypeId} (h : fn.results = #[.cell p ty, .tmp u, .tmp v]) (tmps : Array Value) {w : World} {g : Nat} {t : TypeId} {cs : List Value} (hg : Blk w g t cs) (d : TypeDesc)
    (hp : tmps.getD p undef = .pointer (some ⟨g, 0, none⟩))
    (hu : P.underlying ty = some d) (hd : d.isRow = true) (hi : (P.info? ty).map (·.size) = some cs.length) :
    (results fn tmps).run P w = .ok (.tuple #[.agg cs.toArray, tmps.getD u undef, tmps.getD v undef]) w := by
  have hp' : tmps[p]?.getD undef = .pointer (some ⟨g, 0, none⟩) := by simpa using hp
  simp [results, h, hp', asAddr, run_loadVar_row w g t ty cs.toArray (0, 0) d hg hu (by cases d <;> simp_all) (by simpa using hi)]
/-- how far an entry is read: its numbers, its path, what is left -/
def stE (s : List Int) : Nat → Option (List Int × ByteArray × List Int)
  | 0 => some ([0, 0, 0, 0, 0], ⟨#[]⟩, s)
  | i + 1 =>
    match stE s i with
    | none => none
    | some (x, p, r) =>
      if i = 3 then (match pText 32 r with | none => none | some (t, q) => some (x, strOfNums t, q))
      else (match pNum r with | none => none | some (n, q) => some (x.set i (capN n), p, q))
theorem stE_none {s : List Int} : ∀ {i k : Nat}, i ≤ k → stE s i = none → stE s k = none := by
  intro i k h
  induction h with
  | refl => exact id
  | step h ih => intro h0; simp only [stE]; rw [ih h0]
theorem stE_len {s : List Int} : ∀ {i : Nat} {x : List Int} {p : ByteArray} {r : List Int}, stE s i = some (x, p, r) → x.length = 5 := by
  intro i
  induction i with
  | zero => intro x p r h; simp only [stE, Option.some.injEq, Prod.mk.injEq] at h; rw [← h.1]; rfl
  | succ i ih =>
    intro x p r h
    simp only [stE] at h
    cases h0 : stE s i with
    | none => rw [h0] at h; cases h
    | some z =>
      obtain ⟨x', p', r'⟩ := z
      rw [h0] at h
      simp only at h
      have hl := ih h0
      by_cases h3 : i = 3
      · rw [if_pos h3] at h
        cases h4 : pText 32 r' with
        | none => rw [h4] at h; cases h
        | some z =>
          rw [h4] at h
          simp only [Option.some.injEq, Prod.mk.injEq] at h
          rw [← h.1]; exact hl
      · rw [if_neg h3] at h
        cases h4 : pNum r' with
        | none => rw [h4] at h; cases h
        | some z =>
          rw [h4] at h
          simp only [Option.some.injEq, Prod.mk.injEq] at h
          rw [← h.1, List.length_set]; exact hl
def enOf (x : List Int) (p : ByteArray) : En := ⟨x.getD 0 0, x.getD 1 0, x.getD 2 0, p, x.getD 4 0⟩
theorem entQ_stE (s : List Int) : (∀ x p r, stE s 5 = some (x, p, r) → entQ (some s) = (enOf x p, some r)) ∧ (stE s 5 = none → (entQ (some s)).2 = none) := by
  unfold entQ numQ textQ
  simp only [Option.bind_some]
  cases h1 : pNum s with
  | none => simp only [stE, Option.bind_none]; rw [h1]; simp
  | some q1 =>
    obtain ⟨n1, r1⟩ := q1
    simp only [stE, Option.bind_some]
    rw [h1]
    cases h2 : pNum r1 with
    | none => simp [h2]
    | some q2 =>
      obtain ⟨n2, r2⟩ := q2
      simp only [Option.bind_some]
      cases h3 : pNum r2 with
      | none => simp [h3, h2]
      | some q3 =>
        obtain ⟨n3, r3⟩ := q3
        simp only [Option.bind_some]
        cases h4 : pText 32 r3 with
        | none => simp [h4, h3, h2]
        | some q4 =>
          obtain ⟨t4, r4⟩ := q4
          simp only [Option.bind_some]
          cases h5 : pNum r4 with
          | none => simp [h5, h4, h3, h2]
          | some q5 =>
            obtain ⟨n5, r5⟩ := q5
            constructor
            · intro x p r h
              simp [h5, h4, h3, h2] at h
              obtain ⟨rfl, rfl, rfl⟩ := h
              rfl
            · intro h
              simp [h5, h4, h3, h2] at h
/-- the document's next entry, the place behind it, whether there is one -/
def rentV (l : List Int) (a : Nat) : En × Int × Bool :=
  match stE (l.drop a) 5 with
  | some (x, p, r) => (enOf x p, ((l.length - r.length : Nat) : Int), true)
  | none => (⟨0, 0, 0, ⟨#[]⟩, 0⟩, 0, false)
def ints (x : List Int) : List Value := x.map (Value.int .i64)
theorem ints_set (x : List Int) (i : Nat) (v : Int) : (ints x).set i (.int .i64 v) = ints (x.set i v) := by unfold ints; rw [List.map_set]
theorem ints_at {x : List Int} (h : x.length = 5) {i : Nat} (hi : i < 5) : (ints x)[i]? = some (.int .i64 (x.getD i 0)) := by
  unfold ints
  rw [List.getElem?_map, List.getD_eq_getElem?_getD, List.getElem?_eq_getElem (by omega)]
  rfl
def zE : List Value := [.int .i64 0, .int .i64 0, .int .i64 0, .string ⟨#[]⟩, .int .i64 0]
set_option maxHeartbeats 8000000 in
theorem rentry_c (s : ByteArray) (l : List Int) (hsl : bytesOf s = l) (hl : l.length ≤ 100000) (hb : By l) (a : Nat) (ha : a ≤ l.length) (w : World) :
    Calls Try.prog 45 #[.string s, .int .i64 (a : Int)] w (Tells w (Is (.tuple #[.agg (enc5 (rentV l a).1).toArray, .int .i64 (rentV l a).2.1, .bool (rentV l a).2.2]))) := by
  obtain ⟨R, hR⟩ : ∃ R, R = rentV l a := ⟨_, rfl⟩
  rw [← hR]
  have HRE := Lib.hid hR
  have HNUM := Lib.hid (fun wx a ha => rnumber_c s l hsl hl hb a ha wx)
  have hsz : s.size = l.length := by rw [← hsl, bytesOf_length]
  have HTX := Lib.hid (fun wx (a : Nat) => rgetT_c s (a : Int) 32 wx (by omega) (by omega))
  rw [hsl] at HTX
  obtain ⟨L0, hL0⟩ : ∃ L0, L0 = l.drop a := ⟨_, rfl⟩
  have HL0 := Lib.hid hL0
  obtain ⟨W0, hW0⟩ : ∃ W0, W0 = (w.alloc (.cells #[.int .i64 0, .int .i64 0, .int .i64 0, .string ⟨#[]⟩, .int .i64 0] 36)).alloc (.cells #[.int .i64 0, .int .i64 0, .int .i64 0, .int .i64 0, .int .i64 0] 97) := ⟨_, rfl⟩
  obtain ⟨H, hH⟩ : ∃ H, H = w.heap.size := ⟨_, rfl⟩
  have hb4 : Blk W0 H 36 zE := by rw [hW0, hH]; exact (Blk.new w _ zE).grew (Grew.alloc _ _)
  have hb7 : Blk W0 (H + 1) 97 (ints [0, 0, 0, 0, 0]) := by
    rw [hW0, hH]
    have := Blk.new (w.alloc (.cells #[.int .i64 0, .int .i64 0, .int .i64 0, .string ⟨#[]⟩, .int .i64 0] 36)) 97 (ints [0, 0, 0, 0, 0])
    simpa [ints] using this
  have hg0 : Grew w W0 := by rw [hW0]; exact (Grew.alloc _ _).trans (Grew.alloc _ _)
  have HWE := Lib.hid hW0
  have HHE := Lib.hid hH
  have HB4 := Lib.hid hb4
  have HB7 := Lib.hid hb7
  have HG0 := Lib.hid hg0
  clear hR hW0 hH hb4 hb7 hg0 hsz hL0 hsl
  go_enter Try.func45, Try.ntmps45
  go_wp2_with fail
  rw [← HWE.out]
  rw [← HHE.out]
  go_loopw [1, 8, 9] (fun v1 v8 iv wr => ∃ (i : Nat) (x : List Int) (p : ByteArray) (b : Nat), iv = .int .i64 (i : Int) ∧ i ≤ 5 ∧ v1 = .int .i64 (b : Int) ∧ v8 = .string p ∧ b ≤ l.length ∧ stE L0 i = some (x, p, l.drop b) ∧ Blk wr (H + 1) 97 (ints x) ∧ Blk wr H 36 zE ∧ Grew w wr) (fun _ _ iv _ => 5 - (intOf iv).toNat)
  case atStart => exact ⟨0, _, _, a, rfl, by omega, rfl, rfl, ha, by rw [HL0.out]; rfl, HB7.out, HB4.out, HG0.out⟩
  case round =>
    obtain ⟨i, x, p, b, rfl, hi, rfl, rfl, hbl, hst, hx7, hx4, hgr⟩ := hrel
    have HX7 := Lib.hid (fun wx (h : Grew wr wx) => hx7.grew h)
    have HX4 := Lib.hid (fun wx (h : Grew wr wx) => hx4.grew h)
    have HST := Lib.hid hst
    have HGR := Lib.hid hgr
    have hlx := stE_len hst
    have HLX := Lib.hid hlx
    clear hx7 hx4 hst hgr
    by_cases hlt : i < 5
    · have d1 : decide ((i : Int) < 5) = true := decide_eq_true (by omega)
      have d2 : decide (i < 5) = true := decide_eq_true hlt
      have i5 : (i : Int) < 5 := by omega
      have wi : IntKind.i64.wrap ((i : Int) + 1) = (i : Int) + 1 := IntWalk.i64_in _ (by omega)
      by_cases h3 : i = 3
      · have d3 : decide (i = 3) = true := decide_eq_true h3
        have d4 : ((i : Int) == 3) = true := by simpa using (show (i : Int) = 3 by omega)
        have HH3 := Lib.hid h3
        clear h3 hlx
        cases hp : pText 32 (l.drop b) with
        | none =>
          have he := getT_none (most := 32) hb hbl hp
          rcases hq : getT l (b : Int) 32 with ⟨q1, q2, q3⟩
          rw [show ((32 : Nat) : Int) = 32 from rfl, hq] at he
          simp only at he
          have htx := HTX.out
          have HT1 := Lib.hid (fun wx => HTX.out wx b)
          rw [hq] at HT1
          have e1 : (q3 != 0) = true := by simpa using he
          have e2 : (q3 == 0) = false := by simpa using he
          have hnone : stE L0 5 = none := stE_none (i := i + 1) (by omega) (by simp only [stE]; rw [HST.out]; simp only; rw [if_pos HH3.out, hp])
          have hres : R = (⟨0, 0, 0, ⟨#[]⟩, 0⟩, 0, false) := by rw [HRE.out]; unfold rentV; rw [← HL0.out, hnone]
          subst hres
          clear he hp hq hnone htx
          go_wp2_with fail
          refine (HT1.out wr).mono ?_
          rintro e w3 ⟨_, rfl, rfl, hg3⟩
          have h4 := HX4.out w3 hg3
          go_wp2_with (first | refine wpList_store_blk (c := zE) h4 (by rfl) 36 (.tmp 4) (.tmp 31) (by rfl) (by rfl) (by rfl) (by kernel_rfl) rfl (by kernel_rfl) ?_)
          exact bodyPost_ret (results_ctt rfl _ (h4.setRow zE) _ (by rfl) Try.underlying36 (by rfl) (by kernel_rfl)) rfl ⟨_, rfl, by rfl, Grew.setRow (Grew.trans HGR.out hg3) (by have := HHE.out; omega) _⟩
        | some z =>
          obtain ⟨tt, r⟩ := z
          obtain ⟨g1, g2, g3, g4⟩ := getT_some (most := 32) hb hbl hp
          rw [show ((32 : Nat) : Int) = 32 from rfl] at g1
          obtain ⟨b2, hb2⟩ : ∃ b2, b2 = l.length - r.length := ⟨_, rfl⟩
          rw [← hb2] at g1 g3 g4
          have HT1 := Lib.hid (fun wx => HTX.out wx b)
          rw [g1] at HT1
          have hst2 : stE L0 (i + 1) = some (x, strOfNums tt, l.drop b2) := by simp only [stE]; rw [HST.out]; simp only; rw [if_pos HH3.out, hp]; simp only; rw [g4]
          obtain ⟨ts, hts⟩ : ∃ ts, ts = strOfNums tt := ⟨_, rfl⟩
          rw [← hts] at HT1 hst2
          have HS2 := Lib.hid hst2
          have HG3 := Lib.hid g3
          clear g1 g2 g3 g4 hst2 hp hts hb2
          go_wp2_with fail
          refine (HT1.out wr).mono ?_
          rintro e w3 ⟨_, rfl, rfl, hg3⟩
          go_wp2_with fail
          go_roundw
          case rel => exact ⟨i + 1, x, ts, b2, by go_num, by omega, rfl, rfl, HG3.out, HS2.out, HX7.out w3 hg3, HX4.out w3 hg3, Grew.trans HGR.out hg3⟩
          case measure => simp [intOf]; omega
      · have d3 : decide (i = 3) = false := decide_eq_false h3
        have d4 : ((i : Int) == 3) = false := by simpa using (show ¬ (i : Int) = 3 by omega)
        have HH3 := Lib.hid h3
        clear h3 hlx
        have HN1 := Lib.hid (fun wx => HNUM.out wx b hbl)
        cases hp : pNum (l.drop b) with
        | none =>
          have hrv : rnumV l b = (0, 0, false) := by unfold rnumV; rw [hp]
          rw [hrv] at HN1
          have hnone : stE L0 5 = none := stE_none (i := i + 1) (by omega) (by simp only [stE]; rw [HST.out]; simp only; rw [if_neg HH3.out, hp])
          have hres : R = (⟨0, 0, 0, ⟨#[]⟩, 0⟩, 0, false) := by rw [HRE.out]; unfold rentV; rw [← HL0.out, hnone]
          subst hres
          clear hp hrv hnone
          go_wp2_with fail
          refine (HN1.out wr).mono ?_
          rintro e w3 ⟨_, rfl, rfl, hg3⟩
          have h4 := HX4.out w3 hg3
          go_wp2_with (first | refine wpList_store_blk (c := zE) h4 (by rfl) 36 (.tmp 4) (.tmp 43) (by rfl) (by rfl) (by rfl) (by kernel_rfl) rfl (by kernel_rfl) ?_)
          exact bodyPost_ret (results_ctt rfl _ (h4.setRow zE) _ (by rfl) Try.underlying36 (by rfl) (by kernel_rfl)) rfl ⟨_, rfl, by rfl, Grew.setRow (Grew.trans HGR.out hg3) (by have := HHE.out; omega) _⟩
        | some z =>
          obtain ⟨k, r⟩ := z
          obtain ⟨g1, g2, g3, g4, g5⟩ := getL_some hb hbl hp
          obtain ⟨b2, hb2⟩ : ∃ b2, b2 = l.length - r.length := ⟨_, rfl⟩
          have hrv : rnumV l b = (capN k, (b2 : Int), true) := by unfold rnumV; rw [hp, hb2]
          rw [← hb2] at g3 g4
          rw [hrv] at HN1
          have hst2 : stE L0 (i + 1) = some (x.set i (capN k), p, l.drop b2) := by simp only [stE]; rw [HST.out]; simp only; rw [if_neg HH3.out, hp]; simp only; rw [g4]
          obtain ⟨cv, hcv⟩ : ∃ cv, cv = capN k := ⟨_, rfl⟩
          rw [← hcv] at HN1 hst2
          have HS2 := Lib.hid hst2
          have HG3 := Lib.hid g3
          clear g1 g2 g3 g4 g5 hst2 hp hcv hb2 hrv
          go_wp2_with fail
          refine (HN1.out wr).mono ?_
          rintro e w3 ⟨_, rfl, rfl, hg3⟩
          have h7 := HX7.out w3 hg3
          have c7 : w3.cell? ⟨H + 1, i, none⟩ = some (.int .i64 (x.getD i 0)) := by rw [h7.at_, ints_at HLX.out hlt]
          have z7 := h7.fz i
          have h72 := h7.set i (.int .i64 cv)
          rw [ints_set] at h72
          have H72 := Lib.hid h72
          have H42 := Lib.hid ((HX4.out w3 hg3).far (p := ⟨H + 1, i, none⟩) (by simp) (.int .i64 cv))
          have HG2 := Lib.hid (((Upd.of_grew (S := fun j => j = H + 1) (Grew.trans HGR.out hg3)).set (p := ⟨H + 1, i, none⟩) (.inl rfl) (.int .i64 cv)).grew (fun j hj e => by have := HHE.out; omega))
          clear h7 h72 hg3
          go_wp2_with fail
          go_roundw
          case rel => exact ⟨i + 1, x.set i cv, p, b2, by go_num, by omega, rfl, rfl, HG3.out, HS2.out, H72.out, H42.out, HG2.out⟩
          case measure => simp [intOf]; omega
    · obtain rfl : i = 5 := by omega
      have hres : R = (enOf x p, (b : Int), true) := by
        rw [HRE.out]; unfold rentV; rw [← HL0.out, HST.out]
        simp only [List.length_drop]
        rw [show l.length - (l.length - b) = b from by omega]
      subst hres
      have h7 := HX7.out wr (Grew.refl _)
      have c0 : wr.cell? ⟨H + 1, 0, none⟩ = some (.int .i64 (x.getD 0 0)) := by rw [h7.at_, ints_at HLX.out (by omega)]
      have c1 : wr.cell? ⟨H + 1, 1, none⟩ = some (.int .i64 (x.getD 1 0)) := by rw [h7.at_, ints_at HLX.out (by omega)]
      have c2 : wr.cell? ⟨H + 1, 2, none⟩ = some (.int .i64 (x.getD 2 0)) := by rw [h7.at_, ints_at HLX.out (by omega)]
      have c4 : wr.cell? ⟨H + 1, 4, none⟩ = some (.int .i64 (x.getD 4 0)) := by rw [h7.at_, ints_at HLX.out (by omega)]
      obtain ⟨x0, hx0⟩ : ∃ x0, x0 = x.getD 0 0 := ⟨_, rfl⟩
      obtain ⟨x1, hx1⟩ : ∃ x1, x1 = x.getD 1 0 := ⟨_, rfl⟩
      obtain ⟨x2, hx2⟩ : ∃ x2, x2 = x.getD 2 0 := ⟨_, rfl⟩
      obtain ⟨x4, hx4⟩ : ∃ x4, x4 = x.getD 4 0 := ⟨_, rfl⟩
      rw [← hx0] at c0
      rw [← hx1] at c1
      rw [← hx2] at c2
      rw [← hx4] at c4
      have HEO := Lib.hid (show enc5 (enOf x p) = [.int .i64 x0, .int .i64 x1, .int .i64 x2, .string p, .int .i64 x4] from by rw [hx0, hx1, hx2, hx4]; rfl)
      have h4 := HX4.out wr (Grew.refl _)
      clear h7 hx0 hx1 hx2 hx4 hlx
      go_wp2_with (first | refine wpList_store_blk (c := [.int .i64 x0, .int .i64 x1, .int .i64 x2, .string p, .int .i64 x4]) h4 (by rfl) 36 (.tmp 4) (.tmp 57) (by rfl) (by rfl) (by rfl) (by kernel_rfl) rfl (by simp [Value.oneCell']) ?_)
      exact bodyPost_ret (results_ctt rfl _ (h4.setRow [.int .i64 x0, .int .i64 x1, .int .i64 x2, .string p, .int .i64 x4]) _ (by rfl) Try.underlying36 (by rfl) (by kernel_rfl)) rfl ⟨_, rfl, by rw [HEO.out]; rfl, Grew.setRow HGR.out (by have := HHE.out; omega) _⟩
end Go.Proofs.Ytmifoihfpjomaaa.F

-- AudF
namespace Go.Proofs.Ytmifoihfpjomaaa.F
open Go Go.RowKit Go.Proofs.YtmifoihfpjomaaaW.PrintWords Go.Proofs.YtmifoihfpjomaaaW.PrintLast Go.Proofs.YtmifoihfpjomaaaW.PrintMore Go.Proofs.YtmifoihfpjomaaaM Go.Proofs.YtmifoihfpjomaaaR
attribute [local go_sem] max2_int min2_int max_two min_two
set_option linter.unusedSimpArgs false
set_option linter.unusedVariables false
set_option maxRecDepth 100000
end Go.Proofs.Ytmifoihfpjomaaa.F

-- AudR
namespace Go.Proofs.Ytmifoihfpjomaaa.F
open Go Go.RowKit Go.Proofs.YtmifoihfpjomaaaW.PrintWords Go.Proofs.YtmifoihfpjomaaaW.PrintLast Go.Proofs.YtmifoihfpjomaaaW.PrintMore Go.Proofs.YtmifoihfpjomaaaM Go.Proofs.YtmifoihfpjomaaaR
attribute [local go_sem] max2_int min2_int max_two min_two
set_option linter.unusedSimpArgs false
set_option linter.unusedVariables false
set_option maxRecDepth 100000
end Go.Proofs.Ytmifoihfpjomaaa.F

-- AudP
namespace Go.Proofs.Ytmifoihfpjomaaa.F
open Go Go.RowKit Go.Proofs.YtmifoihfpjomaaaW.PrintWords Go.Proofs.YtmifoihfpjomaaaW.PrintLast Go.Proofs.YtmifoihfpjomaaaW.PrintMore Go.Proofs.YtmifoihfpjomaaaM Go.Proofs.YtmifoihfpjomaaaR
set_option linter.unusedSimpArgs false
set_option linter.unusedVariables false
set_option maxRecDepth 100000
/-- what an audit becomes -/
structure Went (a : ByteArray) (last : Int) (l : List En) (e : En) (ra : ByteArray) (rl : List En) : Prop where
  may0 : mayP a last l = true
  good : goodP e = true
  seq : e.f0 = last + 1
  form : (l.length < 8 ∧ ra = a ∧ rl = l ++ [e]) ∨ ∃ x l', l = x :: l' ∧ l.length = 8 ∧ ra = strOfNums (sealL (bytesOf a) (bytesE x)) ∧ rl = l' ++ [e]
theorem Went.len {a : ByteArray} {last : Int} {l : List En} {e : En} {ra : ByteArray} {rl : List En} (h : Went a last l e ra rl) : (rl.length : Int) = min (last + 1) 8 := by
  have r := mayR h.may0
  have h0 := r.l0
  have h1 := r.len
  rcases h.form with ⟨h2, rfl, rfl⟩ | ⟨x, l', rfl, h2, rfl, rfl⟩
  · rw [List.length_append]; push_cast [List.length_singleton]; omega
  · rw [List.length_append]; simp only [List.length_cons] at h2 h1 ⊢; push_cast at h1 ⊢; simp; omega
end Go.Proofs.Ytmifoihfpjomaaa.F

-- RegQ
namespace Go.Proofs.YtmifoihfpjomaaaR
open Go Go.RowKit
set_option linter.unusedSimpArgs false
set_option linter.unusedVariables false
section
variable (P : Program) (Q : Exit → Act → World → Prop) (R : World → World → Prop) (Rp : Act → World → World → Prop) (V : Nat → World → Value → Prop) (a0 : Act) (w0 : World) (E : Act → World → Prop)
end

section
variable {P : Program} {ops : Array Oper} {Q : Exit → Act → World → Prop} {R : World → World → Prop} {Rp : Act → World → World → Prop} {V : Nat → World → Value → Prop} {a0 : Act} {w0 : World} {E : Act → World → Prop}
/-- what is known between two operations -/
structure InvQ (ops : Array Oper) (m : Nat) (R : World → World → Prop) (Rp : Act → World → World → Prop) (V : Nat → World → Value → Prop) (ks : List Phase) (a0 : Act) (w0 : World) (listed : Array Bool) (a : Act) (w : World) : Prop where
  early : ¬ BigIn ks listed → R w0 w
  late : BigIn ks listed → ∃ w1, R w0 w1 ∧ Rp a w1 w
  size : a.tmps.size = a0.tmps.size
  defers : a.defers = a0.defers
  lsize : listed.size = ops.size
  closed : Closed ops listed
  tail : ∀ j, m ≤ j → listed.getD j false = false
  tmps : ∀ t, match lastW ops (fun j => listed.getD j false) t with
    | some j => V j w (a.tmps[t]?.getD undef)
    | none => a.tmps[t]?.getD undef = a0.tmps[t]?.getD undef
end

section
variable {P : Program} {Q : Exit → Act → World → Prop} {V : Nat → World → Value → Prop} {a0 : Act} {w0 : World} {E : Act → World → Prop}
end
end Go.Proofs.YtmifoihfpjomaaaR

-- AudT
namespace Go.Proofs.Ytmifoihfpjomaaa.F
open Go Go.RowKit Go.Proofs.YtmifoihfpjomaaaW.PrintWords Go.Proofs.YtmifoihfpjomaaaW.PrintLast Go.Proofs.YtmifoihfpjomaaaW.PrintMore Go.Proofs.YtmifoihfpjomaaaM Go.Proofs.YtmifoihfpjomaaaR
set_option linter.unusedSimpArgs false
set_option linter.unusedVariables false
set_option maxRecDepth 100000
theorem cell_setRow_far {w : World} {g : Nat} {ad : Addr} (h : ad.block ≠ g) (c : Array Value) : (w.setRow g c).cell? ad = w.cell? ad := by
  unfold World.cell?
  rw [setRow_other _ _ _ _ h]
theorem addE_block (ad : Addr) (k : Nat) : (ad.add k).block = ad.block := by unfold Addr.add; split <;> rfl
theorem addE_off (ad : Addr) (k : Nat) : (ad.add k).off = ad.off + k := by unfold Addr.add; split <;> simp_all
theorem cell_lt {w : World} {g : Nat} {t : TypeId} {cs : List Value} (hb : Blk w g t cs) {ad : Addr} {u : Value} (h : ad.block = g) (hc : w.cell? ad = some u) : ad.off < cs.length := by
  unfold World.cell? at hc
  rw [h] at hc
  unfold Blk at hb
  rw [hb] at hc
  simp only at hc
  split at hc
  · cases hc
  · simpa using (Array.getElem?_eq_some_iff.1 hc).1
/-- entries that are read stay when a block of three cells is written -/
theorem C_setRow {w : World} {g : Nat} {t : TypeId} {cs : List Value} {A : Option Addr} {n : Nat} {l : List En} (h : Kd.C k36 w A n l) (hb : Blk w g t cs) (h3 : cs.length = 3) (c : Array Value) : Kd.C k36 (w.setRow g c) A n l := by
  obtain ⟨hl, hx, hc⟩ := h
  refine ⟨hl, hx, fun hp => ?_⟩
  obtain ⟨ad, hA, hcell⟩ := hc hp
  refine ⟨ad, hA, fun j p hj => ?_⟩
  obtain ⟨c', hcs, hR, hcc⟩ := hcell j p hj
  obtain rfl := k36_open hR
  have h4 := hcc 4 (.int .i64 p.f4) rfl
  have hne : ad.block ≠ g := by
    intro he
    have := cell_lt hb (by rw [addE_block]; exact he) h4
    rw [addE_off] at this
    omega
  refine ⟨enc5 p, rfl, k36_mk _ p, fun i u hu => ?_⟩
  rw [← hcc i u hu]
  exact cell_setRow_far (by rw [addE_block]; exact hne) c
/-- the audit in what Add gives -/
def RowE (N : Nat) (rl : List En) (w : World) (v : Value) : Prop := RowO w N 36 5 v rl.length (ens rl)
/-- into it the audit is put -/
def PutA (N : Nat) (t : TypeId) (ra : ByteArray) (rn : Int) (rl : List En) : Value → World → World → Prop := fun v w w' => ∃ g cs v0, v = .pointer (some ⟨g, 0, none⟩) ∧ N ≤ g ∧ cs.length = 3 ∧ Blk w g t cs ∧ RowE N rl w v0 ∧ w' = w.setRow g [Value.string ra, .int .i64 rn, v0].toArray
section
variable {N : Nat} {t : TypeId} {ra : ByteArray} {rn : Int} {rl : List En} {re : Int} {q : Tmp}
theorem RowE.put {w w' : World} {v : Value} (ht : 36 ≠ t) (hh : Grew w w' ∨ (∃ a : Act, PutA N t ra rn rl (a.tmps[q]?.getD undef) w w')) {m : List En} {M : Nat} (h : RowE M m w v) : RowE M m w' v := by
  rcases hh with hg | ⟨a, g, cs, v0, -, -, -, hb, -, rfl⟩
  · exact RowO.grew h hg
  · exact RowO.upd (S := fun j => j = g) h (Upd.setRow (S := fun j => j = g) (Upd.refl _ _) (.inl rfl) _) (fun j hj e => RowO.ne h hb ht (by rw [hj, e]))
end
end Go.Proofs.Ytmifoihfpjomaaa.F

-- AudJ
namespace Go.Proofs.Ytmifoihfpjomaaa.F
open Go Go.RowKit Go.Proofs.YtmifoihfpjomaaaW.PrintWords Go.Proofs.YtmifoihfpjomaaaW.PrintLast Go.Proofs.YtmifoihfpjomaaaW.PrintMore Go.Proofs.YtmifoihfpjomaaaM Go.Proofs.YtmifoihfpjomaaaR
attribute [local go_sem] max2_int min2_int max_two min_two
set_option linter.unusedSimpArgs false
set_option linter.unusedVariables false
set_option maxRecDepth 100000
/-- what Decode tells -/
def decR (l : List Int) : ByteArray × Int × List En × Int :=
  if 65536 < l.length then (⟨#[]⟩, 0, [], 2) else
    match decP l with
    | some (a, b, es) => (a, b, es, 0)
    | none => (⟨#[]⟩, 0, [], 4)
def DecA (r : ByteArray × Int × List En × Int) : World → Value → Prop := fun w v => ∃ A c, v = .tuple #[.agg #[.string r.1, .int .i64 r.2.1, .slice A r.2.2.1.length c], .int .i64 r.2.2.2] ∧ r.2.2.1.length ≤ c ∧ Kd.C k36 w A r.2.2.1.length r.2.2.1
theorem decP_bad1 {l : List Int} (h : (textQ 32 (some l)).2 = none) : decP l = none := by
  unfold decP
  simp only
  rw [h, numQ_none, numQ_none, if_neg (fun h => h.1 rfl)]
theorem decP_bad2 {l : List Int} (h : (numQ (textQ 32 (some l)).2).2 = none) : decP l = none := by
  unfold decP
  simp only
  rw [h, numQ_none, if_neg (fun h => h.1 rfl)]
theorem decP_bad3 {l : List Int} (h : (numQ (numQ (textQ 32 (some l)).2).2).2 = none) : decP l = none := by
  unfold decP
  simp only
  rw [h, if_neg (fun h => h.1 rfl)]
/-- what is left when the head was read -/
def decEnd (t : ByteArray) (b : Int) (es : List En × Option (List Int)) : Option (ByteArray × Int × List En) :=
  if es.2 = some [] ∧ mayP t b es.1 = true then some (t, b, es.1) else none
theorem decP_of {l t r1 r2 r3 : List Int} {b : Int} {m : Nat} (h1 : textQ 32 (some l) = (t, some r1)) (h2 : numQ (some r1) = (b, some r2)) (h3 : numQ (some r2) = ((m : Int), some r3)) :
    decP l = if m ≤ 8 then decEnd (strOfNums t) b (entsQ m (some r3)) else none := by
  unfold decP decEnd
  simp only
  rw [h1]
  simp only
  rw [h2]
  simp only
  rw [h3]
  simp only
  rw [Int.toNat_natCast]
  by_cases h8 : m ≤ 8
  · rw [if_pos h8]
    by_cases hc : (entsQ m (some r3)).2 = some [] ∧ mayP (strOfNums t) b (entsQ m (some r3)).1 = true
    · rw [if_pos hc, if_pos ⟨by simp, by omega, hc.1, hc.2⟩]
    · rw [if_neg hc, if_neg (fun h => hc ⟨h.2.2.1, h.2.2.2⟩)]
  · rw [if_neg h8, if_neg (fun h => h8 (by have := h.2.1; omega))]
theorem capN_nat (n : Nat) : ∃ m : Nat, capN n = (m : Int) ∧ m ≤ 4611686018427387904 := ⟨min n 4611686018427387904, by unfold capN; omega, by omega⟩
theorem C_decN (w : World) : Kd.C k36 w none 0 [] := ⟨rfl, by omega, fun h => absurd h (by omega)⟩
theorem decA_none (e : Int) (w : World) : DecA (⟨#[]⟩, 0, [], e) w (.tuple #[.agg zA.toArray, .int .i64 e]) := ⟨none, 0, rfl, Nat.le_refl _, C_decN w⟩
theorem numQ_suffix {l : List Int} {a : Nat} (ha : a ≤ l.length) {r : List Int} (h : (numQ (some (l.drop a))).2 = some r) : l.drop (l.length - r.length) = r ∧ r.length ≤ l.length - a := by
  unfold numQ at h
  rw [Option.bind_some] at h
  cases hp : pNum (l.drop a) with
  | none => rw [hp] at h; cases h
  | some q =>
    obtain ⟨n, q⟩ := q
    rw [hp] at h
    obtain rfl := Option.some.inj h
    unfold pNum at hp
    split at hp
    · obtain ⟨h1, h2⟩ := Prod.mk.inj (Option.some.inj hp)
      subst h2
      rw [List.length_drop, List.length_drop, List.drop_drop]
      refine ⟨?_, by omega⟩
      rcases Nat.lt_or_ge (l.length - a) (getS 10 (l.drop a) 0 1).2.1.toNat with h | h
      · rw [List.drop_of_length_le (by omega), List.drop_of_length_le (by omega)]
      · congr 1; omega
    · cases hp
theorem textQ_suffix {most : Nat} {l : List Int} {a : Nat} (ha : a ≤ l.length) {r : List Int} (h : (textQ most (some (l.drop a))).2 = some r) : l.drop (l.length - r.length) = r ∧ r.length ≤ l.length - a := by
  unfold textQ at h
  rw [Option.bind_some] at h
  unfold pText at h
  cases hp : pNum (l.drop a) with
  | none => rw [hp] at h; cases h
  | some q =>
    obtain ⟨n, q⟩ := q
    rw [hp] at h
    simp only at h
    have h0 := numQ_suffix (r := q) ha (by unfold numQ; rw [Option.bind_some, hp])
    by_cases hc : n ≤ most ∧ n ≤ q.length
    · rw [if_pos hc] at h
      obtain rfl := Option.some.inj h
      rw [List.length_drop]
      refine ⟨?_, by omega⟩
      have e : l.length - (q.length - n) = (l.length - q.length) + n := by omega
      rw [e, ← List.drop_drop, h0.1]
    · rw [if_neg hc] at h; cases h
theorem entQ_suffix {l : List Int} {a : Nat} (ha : a ≤ l.length) {e : En} {r : List Int} (h : entQ (some (l.drop a)) = (e, some r)) : r.length ≤ l.length ∧ l.drop (l.length - r.length) = r := by
  have h := congrArg Prod.snd h
  unfold entQ at h
  simp only at h
  have step : ∀ {s : Option (List Int)} {q : List Int}, (numQ s).2 = some q → (∃ b, b ≤ l.length ∧ s = some (l.drop b)) → ∃ b, b ≤ l.length ∧ q = l.drop b := by
    rintro s q hq ⟨b, hb, rfl⟩
    have := numQ_suffix hb hq
    exact ⟨l.length - q.length, by omega, this.1.symm⟩
  have stepT : ∀ {s : Option (List Int)} {q : List Int}, (textQ 32 s).2 = some q → (∃ b, b ≤ l.length ∧ s = some (l.drop b)) → ∃ b, b ≤ l.length ∧ q = l.drop b := by
    rintro s q hq ⟨b, hb, rfl⟩
    have := textQ_suffix hb hq
    exact ⟨l.length - q.length, by omega, this.1.symm⟩
  have some_of : ∀ {s : Option (List Int)} {q : List Int}, (numQ s).2 = some q → ∃ x, s = some x := by
    intro s q hq
    cases s with
    | none => cases hq
    | some x => exact ⟨x, rfl⟩
  have some_ofT : ∀ {s : Option (List Int)} {q : List Int}, (textQ 32 s).2 = some q → ∃ x, s = some x := by
    intro s q hq
    cases s with
    | none => cases hq
    | some x => exact ⟨x, rfl⟩
  obtain ⟨x4, h4⟩ := some_of h
  obtain ⟨x3, h3⟩ := some_ofT h4
  obtain ⟨x2, h2⟩ := some_of h3
  obtain ⟨x1, h1⟩ := some_of h2
  obtain ⟨c1, k1, e1⟩ := step h1 ⟨a, ha, rfl⟩
  obtain ⟨c2, k2, e2⟩ := step h2 ⟨c1, k1, by rw [h1, e1]⟩
  obtain ⟨c3, k3, e3⟩ := step h3 ⟨c2, k2, by rw [h2, e2]⟩
  obtain ⟨c4, k4, e4⟩ := stepT h4 ⟨c3, k3, by rw [h3, e3]⟩
  obtain ⟨c5, k5, e5⟩ := step h ⟨c4, k4, by rw [h4, e4]⟩
  rw [e5, List.length_drop]
  exact ⟨by omega, by rw [show l.length - (l.length - c5) = c5 from by omega]⟩
set_option maxHeartbeats 16000000 in
theorem rdecode_c (s : ByteArray) (l : List Int) (hsl : bytesOf s = l) (hl : l.length ≤ 100000) (hb : By l) (w : World) :
    Calls Try.prog 28 #[.string s] w (Tells w (DecA (decR l))) := by
  obtain ⟨R, hR⟩ : ∃ R, R = decR l := ⟨_, rfl⟩
  rw [← hR]
  have HRE := Lib.hid hR
  have hsz : s.size = l.length := by rw [← hsl, bytesOf_length]
  have HNUM := Lib.hid (fun wx a ha => rnumber_c s l hsl hl hb a ha wx)
  have HENT := Lib.hid (fun wx a ha => rentry_c s l hsl hl hb a ha wx)
  have HTX := rgetT_c s 0 32 (w.alloc (.cells zA.toArray 24)) (by omega) (by omega)
  rw [hsl] at HTX
  obtain ⟨n, hn⟩ : ∃ n, n = s.size := ⟨_, rfl⟩
  have HN := Lib.hid (show n = l.length from hn.trans hsz)
  have hn' := hn.symm
  obtain ⟨W0, hW0⟩ : ∃ W0, W0 = w.alloc (.cells zA.toArray 24) := ⟨_, rfl⟩
  rw [← hW0] at HTX
  obtain ⟨H, hH⟩ : ∃ H, H = w.heap.size := ⟨_, rfl⟩
  have hb2 : Blk W0 H 24 zA := by rw [hW0, hH]; exact Blk.new w _ zA
  have hg0 : Grew w W0 := by rw [hW0]; exact Grew.alloc _ _
  have hs0 : W0.heap.size = H + 1 := by rw [hW0, hH]; simp
  have HWE := Lib.hid (show W0 = w.alloc (.cells #[.string ⟨#[]⟩, .int .i64 0, .slice none 0 0] 24) from hW0)
  have HHE := Lib.hid hH
  have HB2 := Lib.hid (fun wx (h : Grew W0 wx) => hb2.grew h)
  have HG0 := Lib.hid hg0
  have HS0 := Lib.hid hs0
  have HTX := Lib.hid HTX
  clear hR hW0 hH hb2 hg0 hsl hsz hn hs0
  have HBAD := Lib.hid (fun (e : Int) (wx : World) (h : Grew W0 wx) => show DecA (⟨#[]⟩, 0, [], e) (wx.setRow H zA.toArray) (.tuple #[.agg zA.toArray, .int .i64 e]) ∧ Grew w (wx.setRow H zA.toArray) from ⟨decA_none e _, Grew.setRow (Grew.trans HG0.out h) (by have := HHE.out; omega) _⟩)
  by_cases hlong : 65536 < n
  · have hres : R = (⟨#[]⟩, 0, [], 2) := by rw [HRE.out]; unfold decR; rw [if_pos (by rw [← HN.out]; exact hlong)]
    subst hres
    have d1 : decide (65536 < (n : Int)) = true := decide_eq_true (by omega)
    have d2 : decide (65536 < n) = true := decide_eq_true hlong
    go_enter Try.func28, Try.ntmps28
    have h4 := HB2.out W0 (Grew.refl _)
    rw [HWE.out, HHE.out] at h4
    go_wp2_with (first | refine wpList_store_blk (c := zA) h4 (by rfl) 24 (.tmp 2) (.tmp 20) (by rfl) (by rfl) (by rfl) (by kernel_rfl) rfl (by kernel_rfl) ?_)
    rw [← HWE.out, ← HHE.out]
    have h4 := HB2.out W0 (Grew.refl _)
    exact bodyPost_ret (results_ct rfl _ _ H 24 zA.toArray (0, 0) _ rfl (h4.setRow zA) Try.underlying24 (by rfl) (by rfl)) rfl ⟨_, rfl, by exact (HBAD.out 2 W0 (Grew.refl _)).1, by exact (HBAD.out 2 W0 (Grew.refl _)).2⟩
  · have d1 : decide (65536 < (n : Int)) = false := decide_eq_false (by omega)
    have d2 : decide (65536 < n) = false := decide_eq_false hlong
    have hdr : R = match decP l with | some (a, b, es) => (a, b, es, 0) | none => (⟨#[]⟩, 0, [], 4) := by rw [HRE.out]; unfold decR; rw [if_neg (by rw [← HN.out]; exact hlong)]
    have HDR := Lib.hid hdr
    have HBADR := Lib.hid (show decP l = none → R = (⟨#[]⟩, 0, [], 4) from fun h => by rw [hdr, h])
    clear hdr hlong
    have hd0 : l.drop 0 = l := rfl
    go_enter Try.func28, Try.ntmps28
    go_wp2_with fail
    rw [← HWE.out, ← HHE.out]
    clear d1 d2
    cases hp : pText 32 l with
    | none =>
      have he := getT_none (l := l) (m := 0) (most := 32) hb (by omega) (by rw [List.drop_zero]; exact hp)
      rcases hq : getT l 0 32 with ⟨q1, q2, q3⟩
      rw [show ((0 : Nat) : Int) = 0 from rfl, show ((32 : Nat) : Int) = 32 from rfl, hq] at he
      simp only at he
      rw [hq] at HTX
      have e1 : (q3 != 0) = true := by simpa using he
      have e2 : (q3 == 0) = false := by simpa using he
      have hres := HBADR.out (decP_bad1 (by unfold textQ; rw [Option.bind_some, hp]))
      subst hres
      clear he hp hq
      refine HTX.out.mono ?_
      rintro e w3 ⟨_, rfl, rfl, hg3⟩
      have h4 := HB2.out w3 hg3
      go_wp2_with (first | refine wpList_store_blk (c := zA) h4 (by rfl) 24 (.tmp 2) (.tmp 29) (by rfl) (by rfl) (by rfl) (by kernel_rfl) rfl (by kernel_rfl) ?_)
      exact bodyPost_ret (results_ct rfl _ _ H 24 zA.toArray (0, 0) _ rfl (h4.setRow zA) Try.underlying24 (by rfl) (by rfl)) rfl ⟨_, rfl, by exact (HBAD.out 4 w3 hg3).1, by exact (HBAD.out 4 w3 hg3).2⟩
    | some z =>
      obtain ⟨tt, r1⟩ := z
      obtain ⟨g1, g2, g3, g4⟩ := getT_some (l := l) (m := 0) (most := 32) hb (by omega) (by rw [List.drop_zero]; exact hp)
      rw [show ((0 : Nat) : Int) = 0 from rfl, show ((32 : Nat) : Int) = 32 from rfl] at g1
      obtain ⟨b1, hb1⟩ : ∃ b1, b1 = l.length - r1.length := ⟨_, rfl⟩
      rw [← hb1] at g1 g3 g4
      rw [g1] at HTX
      have ht1 : textQ 32 (some l) = (tt, some r1) := by unfold textQ; rw [Option.bind_some, hp]
      obtain ⟨ts, hts⟩ : ∃ ts, ts = strOfNums tt := ⟨_, rfl⟩
      rw [← hts] at HTX
      have HT1 := Lib.hid ht1
      have HTS := Lib.hid hts
      have HG4 := Lib.hid g4
      have e0 : ((0 : Int) != 0) = false := rfl
      have HN1 := Lib.hid (fun wx => HNUM.out wx b1 g3)
      refine HTX.out.mono ?_
      rintro e w3 ⟨_, rfl, rfl, hg3⟩
      clear g1 g2 hp ht1 hts hb1
      cases hp2 : pNum (l.drop b1) with
      | none =>
        have hrv : rnumV l b1 = (0, 0, false) := by unfold rnumV; rw [hp2]
        rw [hrv] at HN1
        have hres := HBADR.out (decP_bad2 (by rw [HT1.out, ← HG4.out]; unfold numQ; rw [Option.bind_some, hp2]))
        subst hres
        clear hp2 hrv g4 g3
        go_wp2_with fail
        refine (HN1.out w3).mono ?_
        rintro e w4 ⟨_, rfl, rfl, hg4⟩
        have h4 := HB2.out w4 (Grew.trans hg3 hg4)
        go_wp2_with (first | refine wpList_store_blk (c := zA) h4 (by rfl) 24 (.tmp 2) (.tmp 51) (by rfl) (by rfl) (by rfl) (by kernel_rfl) rfl (by kernel_rfl) ?_)
        exact bodyPost_ret (results_ct rfl _ _ H 24 zA.toArray (0, 0) _ rfl (h4.setRow zA) Try.underlying24 (by rfl) (by rfl)) rfl ⟨_, rfl, by exact (HBAD.out 4 w4 (Grew.trans hg3 hg4)).1, by exact (HBAD.out 4 w4 (Grew.trans hg3 hg4)).2⟩
      | some z =>
        obtain ⟨k2, r2⟩ := z
        obtain ⟨-, f2, f3, f4, -⟩ := getL_some hb g3 hp2
        obtain ⟨b2, hb2⟩ : ∃ b2, b2 = l.length - r2.length := ⟨_, rfl⟩
        have hrv : rnumV l b1 = (capN k2, (b2 : Int), true) := by unfold rnumV; rw [hp2, hb2]
        rw [← hb2] at f3 f4
        rw [hrv] at HN1
        have ht2 : numQ (some r1) = (capN k2, some r2) := by rw [← HG4.out]; unfold numQ; rw [Option.bind_some, hp2]
        obtain ⟨la, hla⟩ : ∃ la, la = capN k2 := ⟨_, rfl⟩
        rw [← hla] at HN1 ht2
        have HT2 := Lib.hid ht2
        have HF4 := Lib.hid f4
        have HN2 := Lib.hid (fun wx => HNUM.out wx b2 f3)
        clear hp2 hrv f2 hb2 g4 ht2 hla
        go_wp2_with fail
        refine (HN1.out w3).mono ?_
        rintro e w4 ⟨_, rfl, rfl, hg4⟩
        have hg34 := Grew.trans hg3 hg4
        clear hg3 hg4
        cases hp3 : pNum (l.drop b2) with
        | none =>
          have hrv : rnumV l b2 = (0, 0, false) := by unfold rnumV; rw [hp3]
          rw [hrv] at HN2
          have hres := HBADR.out (decP_bad3 (by rw [HT1.out]; simp only; rw [HT2.out, ← HF4.out]; unfold numQ; rw [Option.bind_some, hp3]))
          subst hres
          clear hp3 hrv f4 f3 g3
          go_wp2_with fail
          refine (HN2.out w4).mono ?_
          rintro e w5 ⟨_, rfl, rfl, hg5⟩
          have h4 := HB2.out w5 (Grew.trans hg34 hg5)
          go_wp2_with (first | refine wpList_store_blk (c := zA) h4 (by rfl) 24 (.tmp 2) (.tmp 51) (by rfl) (by rfl) (by rfl) (by kernel_rfl) rfl (by kernel_rfl) ?_)
          exact bodyPost_ret (results_ct rfl _ _ H 24 zA.toArray (0, 0) _ rfl (h4.setRow zA) Try.underlying24 (by rfl) (by rfl)) rfl ⟨_, rfl, by exact (HBAD.out 4 w5 (Grew.trans hg34 hg5)).1, by exact (HBAD.out 4 w5 (Grew.trans hg34 hg5)).2⟩
        | some z =>
          obtain ⟨k3, r3⟩ := z
          obtain ⟨-, q2, q3, q4, -⟩ := getL_some hb f3 hp3
          obtain ⟨b3, hb3⟩ : ∃ b3, b3 = l.length - r3.length := ⟨_, rfl⟩
          obtain ⟨m, hm, hmm⟩ := capN_nat k3
          have hrv : rnumV l b2 = ((m : Int), (b3 : Int), true) := by unfold rnumV; rw [hp3, hb3]; simp only; rw [hm]
          rw [← hb3] at q3 q4
          rw [hrv] at HN2
          have ht3 : numQ (some r2) = ((m : Int), some r3) := by rw [← HF4.out]; unfold numQ; rw [Option.bind_some, hp3]; simp only; rw [hm]
          have hdec := decP_of HT1.out HT2.out ht3
          rw [← HTS.out] at hdec
          have HDEC := Lib.hid hdec
          have HQ4 := Lib.hid q4
          clear hp3 hrv q2 hb3 f4 ht3 hm hdec q4 f3 g3
          go_wp2_with fail
          refine (HN2.out w4).mono ?_
          rintro e w5 ⟨_, rfl, rfl, hg5⟩
          have hg05 := Grew.trans hg34 hg5
          clear hg34 hg5
          by_cases h8 : 8 < m
          · have d1 : decide (8 < (m : Int)) = true := decide_eq_true (by omega)
            have d2 : decide (8 < m) = true := decide_eq_true h8
            have hres := HBADR.out (by rw [HDEC.out, if_neg (by omega)])
            subst hres
            have h4 := HB2.out w5 hg05
            go_wp2_with (first | refine wpList_store_blk (c := zA) h4 (by rfl) 24 (.tmp 2) (.tmp 51) (by rfl) (by rfl) (by rfl) (by kernel_rfl) rfl (by kernel_rfl) ?_)
            exact bodyPost_ret (results_ct rfl _ _ H 24 zA.toArray (0, 0) _ rfl (h4.setRow zA) Try.underlying24 (by rfl) (by rfl)) rfl ⟨_, rfl, by exact (HBAD.out 4 w5 hg05).1, by exact (HBAD.out 4 w5 hg05).2⟩
          · have d1 : decide (8 < (m : Int)) = false := decide_eq_false (by omega)
            have d2 : decide (8 < m) = false := decide_eq_false h8
            have hdec := HDEC.out
            rw [if_pos (by omega)] at hdec
            have HDEC := Lib.hid hdec
            have HE := Lib.hid (show entsQ 0 (some r3) = ([], some (l.drop b3)) from by rw [HQ4.out]; rfl)
            clear hdec
            obtain ⟨G, hG⟩ : ∃ G, G = w5.heap.size := ⟨_, rfl⟩
            obtain ⟨W1, hW1⟩ : ∃ W1, W1 = w5.alloc (.cells #[.string ts, .int .i64 la, .slice none 0 0] 24) := ⟨_, rfl⟩
            have hbG : Blk W1 G 24 [.string ts, .int .i64 la, .slice none 0 0] := by rw [hW1, hG]; exact Blk.new _ _ _
            have HBG := Lib.hid hbG
            have HG1 := Lib.hid (show Grew W0 W1 from Grew.trans hg05 (by rw [hW1]; exact Grew.alloc _ _))
            have HGG := Lib.hid (show H + 1 ≤ G from by rw [hG, ← HS0.out]; exact hg05.size)
            have HW1 := Lib.hid hW1
            have HGE := Lib.hid hG
            clear hbG hW1 hG
            go_wp2_with fail
            rw [← HW1.out, ← HGE.out]
            clear d1 d2 hg05
            go_loopw [10, 13] (fun v10 iv wr => ∃ (i b : Nat) (L : List En) (va : Value), iv = .int .i64 (i : Int) ∧ i ≤ m ∧ v10 = .int .i64 (b : Int) ∧ b ≤ l.length ∧ entsQ i (some r3) = (L, some (l.drop b)) ∧ Blk wr G 24 [.string ts, .int .i64 la, va] ∧ RowO wr (G + 1) 36 5 va i (ens L) ∧ Grew W0 wr) (fun _ iv _ => m - (intOf iv).toNat)
            case atStart => exact ⟨0, b3, [], _, rfl, Nat.zero_le _, rfl, q3, HE.out, HBG.out, rowO_nil _ _ _ _, HG1.out⟩
            case round =>
              obtain ⟨i, b, L, va, rfl, hi, rfl, hbl, hst, hbG, hro, hgr⟩ := hrel
              obtain ⟨Av, cv, rfl, hcv⟩ := hro.slice
              have hlL : L.length = i := by have := entsQ_len i (some r3); rw [hst] at this; exact this
              have HLL := Lib.hid hlL
              have HST := Lib.hid hst
              have HBG2 := Lib.hid (fun wx (h : Grew wr wx) => hbG.grew h)
              have HRO := Lib.hid (fun wx (h : Grew wr wx) => hro.grew h)
              have HGR := Lib.hid hgr
              have hG0 := HGG.out
              clear hlL hst hbG hro hgr
              by_cases hlt : i < m
              · have d1 : decide ((i : Int) < (m : Int)) = true := decide_eq_true (by omega)
                have d2 : decide (i < m) = true := decide_eq_true hlt
                have wi : IntKind.i64.wrap ((i : Int) + 1) = (i : Int) + 1 := IntWalk.i64_in _ (by omega)
                have HEN := Lib.hid (fun wx => HENT.out wx b hbl)
                obtain ⟨hs1, hs2⟩ := entQ_stE (l.drop b)
                cases hq : stE (l.drop b) 5 with
                | none =>
                  have hrv : rentV l b = (⟨0, 0, 0, ⟨#[]⟩, 0⟩, 0, false) := by unfold rentV; rw [hq]
                  rw [hrv] at HEN
                  have hno : (entsQ m (some r3)).2 = none := entsQ_none (i := i + 1) (by omega) (by simp only [entsQ]; rw [HST.out]; exact hs2 hq)
                  have hres := HBADR.out (by rw [HDEC.out]; unfold decEnd; rw [hno, if_neg (by simp)])
                  subst hres
                  simp only [enc5] at HEN
                  clear hs1 hs2 hq hrv hno
                  go_wp2_with fail
                  refine (HEN.out wr).mono ?_
                  rintro e w6 ⟨_, rfl, rfl, hg6⟩
                  have hg06 := Grew.trans HGR.out hg6
                  have h4 := HB2.out (w6.alloc (.cells #[.int .i64 0, .int .i64 0, .int .i64 0, .string ⟨#[]⟩, .int .i64 0] 36)) (Grew.trans hg06 (Grew.alloc _ _))
                  have hg07 : Grew W0 (w6.alloc (.cells #[.int .i64 0, .int .i64 0, .int .i64 0, .string ⟨#[]⟩, .int .i64 0] 36)) := Grew.trans hg06 (Grew.alloc _ _)
                  go_wp2_with (first | refine wpList_store_blk (c := zA) h4 (by rfl) 24 (.tmp 2) (.tmp 69) (by rfl) (by rfl) (by rfl) (by kernel_rfl) rfl (by kernel_rfl) ?_)
                  exact bodyPost_ret (results_ct rfl _ _ H 24 zA.toArray (0, 0) _ rfl (h4.setRow zA) Try.underlying24 (by rfl) (by rfl)) rfl ⟨_, rfl, by exact (HBAD.out 4 _ hg07).1, by exact (HBAD.out 4 _ hg07).2⟩
                | some z =>
                  obtain ⟨x, pp, r⟩ := z
                  have hrv : rentV l b = (enOf x pp, ((l.length - r.length : Nat) : Int), true) := by unfold rentV; rw [hq]
                  have hent := hs1 x pp r hq
                  obtain ⟨bb, hbb⟩ : ∃ bb, bb = l.length - r.length := ⟨_, rfl⟩
                  obtain ⟨e1', hsuf⟩ := entQ_suffix (l := l) (a := b) hbl hent
                  rw [← hbb] at hrv hsuf
                  rw [hrv] at HEN
                  have hst2 : entsQ (i + 1) (some r3) = (L ++ [enOf x pp], some (l.drop bb)) := by simp only [entsQ]; rw [HST.out]; simp only; rw [hent, hsuf]
                  obtain ⟨e, he⟩ : ∃ e, e = enOf x pp := ⟨_, rfl⟩
                  rw [← he] at HEN hst2
                  obtain ⟨f0, f1, f2, f3, f4⟩ := e
                  have HS2 := Lib.hid hst2
                  have HBB := Lib.hid (show bb ≤ l.length by omega)
                  simp only [enc5] at HEN
                  clear hs1 hs2 hq hrv hent hsuf hst2 he hbb e1'
                  go_wp2_with fail
                  refine (HEN.out wr).mono ?_
                  rintro e w6 ⟨_, rfl, rfl, hg6⟩
                  obtain ⟨W6, hW6⟩ : ∃ W6, W6 = w6.alloc (.cells #[.int .i64 f0, .int .i64 f1, .int .i64 f2, .string f3, .int .i64 f4] 36) := ⟨_, rfl⟩
                  have hg66 : Grew w6 W6 := by rw [hW6]; exact Grew.alloc _ _
                  obtain ⟨W7, hW7⟩ : ∃ W7, W7 = W6.alloc (.cells (enc5 ⟨f0, f1, f2, f3, f4⟩).toArray 36) := ⟨_, rfl⟩
                  have hg67 : Grew W6 W7 := by rw [hW7]; exact Grew.alloc _ _
                  have hg17 := Grew.trans hg6 (Grew.trans hg66 hg67)
                  have hbn : Blk W7 W6.heap.size 36 (enc5 ⟨f0, f1, f2, f3, f4⟩) := by rw [hW7]; exact Blk.new _ _ _
                  have hro7 := HRO.out W7 hg17
                  have hb7 := HBG2.out W7 hg17
                  have hlt7 := hb7.lt
                  obtain ⟨v8, w8, hrun, hro8, hgr8, hnb8⟩ := app_rowO (P := Try.prog) W7 (G + 1) 22 36 22 (.agg #[.int .i64 0, .int .i64 0, .int .i64 0, .string ⟨#[]⟩, .int .i64 0]) 5 48 Try.underlying22 infoEn rfl (by decide) (by decide) (.slice Av i cv) i (ens L) W6.heap.size (enc5 ⟨f0, f1, f2, f3, f4⟩) rfl (enc5_one _) hro7 hbn (by omega) (by omega)
                  rw [← ens_snoc] at hro8
                  have hu8 := Upd.of_grown hgr8
                  have hb8 := hb7.upd hu8 (hro7.ne hb7 (by decide))
                  have hg08 : Grew W0 w8 := ((Upd.of_grew (S := fun j => (Value.slice Av i cv).ownBlock = some j) (Grew.trans HGR.out hg17)).trans hu8).grew (fun j hj e => by have h1 := hro7.base_ j e; have h2 := HS0.out; omega)
                  have hset := hb8.set 2 v8
                  have hro9 := RowO.upd (S := fun j => j = G) (w' := w8.setCell ⟨G, 2, none⟩ v8) hro8 (Upd.set (S := fun j => j = G) (p := ⟨G, 2, none⟩) (Upd.refl _ _) (.inl rfl) _) (fun j hj e => by have := hro8.base_ j hj; omega)
                  have hg09 : Grew W0 (w8.setCell ⟨G, 2, none⟩ v8) := ((Upd.of_grew (S := fun j => j = G) hg08).set (p := ⟨G, 2, none⟩) (.inl rfl) v8).grew (fun j hj e => by have h2 := HS0.out; omega)
                  have HSET := Lib.hid hset
                  have HRO9 := Lib.hid hro9
                  have HG09 := Lib.hid hg09
                  have c2 := (HBG2.out W6 (Grew.trans hg6 hg66)).at_ 2
                  have k2 := hb8.at_ 2
                  have z2 := hb8.fz 2
                  simp only [List.getElem?_cons_zero, List.getElem?_cons_succ] at c2 k2
                  have hs6 : W6.heap.size = w6.heap.size + 1 := by rw [hW6]; simp
                  rw [hs6] at hrun
                  subst hW7
                  subst hW6
                  have HRUN := Lib.hid hrun
                  obtain ⟨A8, c8, rfl, hc8⟩ := hro8.slice
                  clear hg66 hg67 hg17 hbn hro7 hb7 hlt7 hrun hro8 hgr8 hnb8 hu8 hb8 hg08 hset hro9 hg09 hg6
                  go_wp2_with (at_builtin; refine wpList_app (by rfl) (.tmp 71) (.tmp 73) 22 (by rfl) (by rfl) (by rfl) HRUN.out ?_)
                  go_roundw
                  case rel => exact ⟨i + 1, bb, _, _, by go_num, by omega, rfl, HBB.out, HS2.out, HSET.out, HRO9.out, HG09.out⟩
                  case measure => simp [intOf]; omega
              · obtain rfl : i = m := by omega
                have d1 : decide ((i : Int) < (i : Int)) = false := decide_eq_false (by omega)
                have d2 : decide (i < i) = false := decide_eq_false (by omega)
                have hend : decP l = if l.drop b = [] ∧ mayP ts la L = true then some (ts, la, L) else none := by
                  rw [HDEC.out]; unfold decEnd; rw [HST.out]; simp only [Option.some.injEq]
                have HEND := Lib.hid hend
                have hbG := HBG2.out wr (Grew.refl _)
                have c0 := hbG.at_ 0
                have c1 := hbG.at_ 1
                have c2 := hbG.at_ 2
                simp only [List.getElem?_cons_zero, List.getElem?_cons_succ] at c0 c1 c2
                obtain ⟨A9, c9, hv9, hc9, hC9⟩ := rowO_C (HRO.out wr (Grew.refl _)) HLL.out
                injection hv9 with hv91 hv92 hv93
                subst hv91 hv93
                have HMAY := Lib.hid (fun wx (h : Grew wr wx) => rmay_c ts la Av cv L wx (Kd.C_below (by rw [HLL.out]; exact hC9) h) (by rw [HLL.out]; exact hc9))
                rw [HLL.out] at HMAY
                have HC9 := Lib.hid hC9
                clear hend hC9 hv92 hbG
                by_cases hbn : b = n
                · have e1 : ((b : Int) != (n : Int)) = false := by simp [hbn]
                  have e2 : ((b : Int) == (n : Int)) = true := by simp [hbn]
                  have HBN := Lib.hid hbn
                  clear hbn
                  cases hmay : mayP ts la L with
                  | true =>
                    rw [hmay] at HMAY
                    have hres : R = (ts, la, L, 0) := by rw [HDR.out, HEND.out, if_pos ⟨List.drop_of_length_le (by rw [HBN.out, HN.out]; exact Nat.le_refl _), hmay⟩]
                    subst hres
                    clear hmay
                    go_wp2_with fail
                    refine (HMAY.out wr (Grew.refl _)).mono ?_
                    rintro e w6 ⟨_, rfl, rfl, hg6⟩
                    have h4 := HB2.out w6 (Grew.trans HGR.out hg6)
                    have hbG := HBG2.out w6 hg6
                    clear c0 c1 c2 d1 d2 e1 e2
                    go_wp2_with (first | refine wpList_load_blk hbG (by rfl) 24 (.tmp 12) (by rfl) (by rfl) _ Try.underlying24 (by rfl) (by kernel_rfl) ?_ | refine wpList_store_blk (c := [.string ts, .int .i64 la, .slice Av i cv]) h4 (by rfl) 24 (.tmp 2) (.tmp 87) (by rfl) (by rfl) (by rfl) (by kernel_rfl) rfl (zA_one _ _ _ _ _) ?_)
                    exact bodyPost_ret (results_ct rfl _ _ H 24 ([.string ts, .int .i64 la, .slice Av i cv] : List Value).toArray (0, 0) _ rfl (h4.setRow [.string ts, .int .i64 la, .slice Av i cv]) Try.underlying24 (by rfl) (by rfl)) rfl ⟨_, rfl, by
                      refine ⟨Av, cv, by rw [HLL.out]; rfl, by rw [HLL.out]; exact hc9, ?_⟩
                      rw [HLL.out]
                      exact C_setRow (Kd.C_below HC9.out hg6) h4 rfl _, by exact Grew.setRow (Grew.trans HG0.out (Grew.trans HGR.out hg6)) (by have := HHE.out; omega) _⟩
                  | false =>
                    rw [hmay] at HMAY
                    have hres := HBADR.out (by rw [HEND.out, if_neg (by rw [hmay]; simp)])
                    subst hres
                    clear hmay
                    go_wp2_with fail
                    refine (HMAY.out wr (Grew.refl _)).mono ?_
                    rintro e w6 ⟨_, rfl, rfl, hg6⟩
                    have h4 := HB2.out w6 (Grew.trans HGR.out hg6)
                    go_wp2_with (first | refine wpList_store_blk (c := zA) h4 (by rfl) 24 (.tmp 2) (.tmp 86) (by rfl) (by rfl) (by rfl) (by kernel_rfl) rfl (by kernel_rfl) ?_)
                    exact bodyPost_ret (results_ct rfl _ _ H 24 zA.toArray (0, 0) _ rfl (h4.setRow zA) Try.underlying24 (by rfl) (by rfl)) rfl ⟨_, rfl, by exact (HBAD.out 4 w6 (Grew.trans HGR.out hg6)).1, by exact (HBAD.out 4 w6 (Grew.trans HGR.out hg6)).2⟩
                · have e1 : ((b : Int) != (n : Int)) = true := by simp; omega
                  have e2 : ((b : Int) == (n : Int)) = false := by simp; omega
                  have hres := HBADR.out (by
                    rw [HEND.out, if_neg (fun h => hbn ?_)]
                    have := congrArg List.length h.1
                    rw [List.length_drop] at this
                    have := HN.out
                    simp at *; omega)
                  subst hres
                  clear c0 c1 c2 hbn
                  have h4 := HB2.out wr HGR.out
                  go_wp2_with (first | refine wpList_store_blk (c := zA) h4 (by rfl) 24 (.tmp 2) (.tmp 86) (by rfl) (by rfl) (by rfl) (by kernel_rfl) rfl (by kernel_rfl) ?_)
                  exact bodyPost_ret (results_ct rfl _ _ H 24 zA.toArray (0, 0) _ rfl (h4.setRow zA) Try.underlying24 (by rfl) (by rfl)) rfl ⟨_, rfl, by exact (HBAD.out 4 wr HGR.out).1, by exact (HBAD.out 4 wr HGR.out).2⟩
end Go.Proofs.Ytmifoihfpjomaaa.F

-- AudK
namespace Go.Proofs.Ytmifoihfpjomaaa.F
open Go Go.RowKit Go.Proofs.YtmifoihfpjomaaaW.PrintWords Go.Proofs.YtmifoihfpjomaaaW.PrintLast Go.Proofs.YtmifoihfpjomaaaW.PrintMore Go.Proofs.YtmifoihfpjomaaaM Go.Proofs.YtmifoihfpjomaaaR
attribute [local go_sem] max2_int min2_int max_two min_two
set_option linter.unusedSimpArgs false
set_option linter.unusedVariables false
set_option maxRecDepth 100000
theorem numQ_nat (s : Option (List Int)) : ∃ m : Nat, (numQ s).1 = (m : Int) ∧ m ≤ 4611686018427387904 := by
  unfold numQ
  cases s.bind pNum with
  | none => exact ⟨0, rfl, by omega⟩
  | some q => exact capN_nat q.1
theorem entsQ_no (k : Nat) : (entsQ k none).2 = none := entsQ_none (i := 0) (Nat.zero_le _) rfl
/-- what is known behind the loop -/
theorem decP_end {l : List Int} {ts : ByteArray} {la : Int} {m i : Nat} {s3 s : Option (List Int)} {L : List En} (h1 : strOfNums (textQ 32 (some l)).1 = ts) (h2 : (numQ (textQ 32 (some l)).2).1 = la) (h3 : (numQ (numQ (textQ 32 (some l)).2).2).1 = (m : Int)) (h4 : (numQ (numQ (textQ 32 (some l)).2).2).2 = s3)
    (hst : entsQ i s3 = (L, s)) (him : i ≤ m) (hex : ¬ (i < m ∧ i ≤ 8 ∧ s ≠ none)) : decP l = if s = some [] ∧ m = i ∧ mayP ts la L = true then some (ts, la, L) else none := by
  unfold decP
  simp only
  rw [h1, h2, h3, h4, Int.toNat_natCast]
  by_cases hc : s = some [] ∧ m = i ∧ mayP ts la L = true
  · obtain ⟨c1, c2, c3⟩ := hc
    subst c2
    have hl : L.length = m := by have := entsQ_len m s3; rw [hst] at this; exact this
    have hm := (mayR c3).len
    have h0 := (mayR c3).l0
    have hs3 : s3 ≠ none := by
      intro h
      subst h
      have := entsQ_no m
      rw [hst, c1] at this
      cases this
    rw [hst, if_pos ⟨hs3, by omega, c1, c3⟩, if_pos ⟨c1, rfl, c3⟩]
  · rw [if_neg hc, if_neg]
    rintro ⟨k1, k2, k3, k4⟩
    have hm8 : m ≤ 8 := by omega
    by_cases hlt : i < m
    · have hn : s = none := Classical.byContradiction fun h => hex ⟨hlt, by omega, h⟩
      have := entsQ_none (s := s3) (i := i) (k := m) him (by rw [hst]; exact hn)
      rw [this] at k3
      cases k3
    · obtain rfl : m = i := by omega
      rw [hst] at k3 k4
      exact hc ⟨k3, rfl, k4⟩
/-- what stays while the reader goes on -/
structure KeepD (W0 : World) (G : Nat) (ts : ByteArray) (la : Int) (va : Value) (i : Nat) (L : List En) (wx : World) : Prop where
  blk : Blk wx G 27 [.string ts, .int .i64 la, va]
  row : RowO wx (G + 1) 36 5 va i (ens L)
  grew : Grew W0 wx
theorem KeepD.of_upd {S : Nat → Prop} {W0 : World} {G : Nat} {ts : ByteArray} {la : Int} {va : Value} {i : Nat} {L : List En} {wx wy : World} (h : KeepD W0 G ts la va i L wx) (hu : Upd S wx wy) (h1 : ¬ S G) (h2 : ∀ k, va.ownBlock = some k → ¬ S k) (h3 : ∀ k, k < W0.heap.size → ¬ S k) : KeepD W0 G ts la va i L wy :=
  ⟨h.blk.upd hu h1, h.row.upd hu h2, ((Upd.of_grew (S := S) h.grew).trans hu).grew h3⟩
theorem KeepD.of_grew {W0 : World} {G : Nat} {ts : ByteArray} {la : Int} {va : Value} {i : Nat} {L : List En} {wx wy : World} (h : KeepD W0 G ts la va i L wx) (hu : Grew wx wy) : KeepD W0 G ts la va i L wy :=
  ⟨h.blk.grew hu, h.row.grew hu, Grew.trans h.grew hu⟩
set_option maxHeartbeats 16000000 in
theorem decode_c (A : Option Addr) (c : Nat) (l : List Int) (w : World) (hr : Kd.C (Kd.int .u8) w A l.length l) (hc : l.length ≤ c) (hl : l.length ≤ 100000) (hb : By l) :
    Calls Try.prog 27 #[.slice A l.length c] w (Tells w (DecA (decR l))) := by
  obtain ⟨R, hR⟩ : ∃ R, R = decR l := ⟨_, rfl⟩
  rw [← hR]
  have HRE := Lib.hid hR
  obtain ⟨n, hn⟩ : ∃ n, n = l.length := ⟨_, rfl⟩
  have HN := Lib.hid hn
  obtain ⟨W0, hW0⟩ : ∃ W0, W0 = w.alloc (.cells zA.toArray 27) := ⟨_, rfl⟩
  obtain ⟨H, hH⟩ : ∃ H, H = w.heap.size := ⟨_, rfl⟩
  obtain ⟨W1, hW1⟩ : ∃ W1, W1 = W0.alloc (.cells #[.slice A n c, .int .i64 0, .bool false] 68) := ⟨_, rfl⟩
  have hb2 : Blk W0 H 27 zA := by rw [hW0, hH]; exact Blk.new w _ zA
  have hg0 : Grew w W0 := by rw [hW0]; exact Grew.alloc _ _
  have hs0 : W0.heap.size = H + 1 := by rw [hW0, hH]; simp
  have hg1 : Grew W0 W1 := by rw [hW1]; exact Grew.alloc _ _
  have hrd : RdB W1 (H + 1) A c l (some l) := by
    refine ⟨0, false, Nat.zero_le _, ?_, rfl⟩
    rw [hW1, ← hs0, ← hn]
    exact Blk.new _ _ _
  have HNU := Lib.hid (fun wx s (h : Grew w wx) (hB : RdB wx (H + 1) A c l s) => number_c w wx (H + 1) A c l s hr hc hl hb h hB)
  have HTE := Lib.hid (fun wx s (h : Grew w wx) (hB : RdB wx (H + 1) A c l s) => text_c w wx (H + 1) 32 (by omega) A c l s hr hc hl hb h hB)
  rw [show ((32 : Nat) : Int) = 32 from rfl] at HTE
  have HWE := Lib.hid (show W0 = w.alloc (.cells #[.string ⟨#[]⟩, .int .i64 0, .slice none 0 0] 27) from hW0)
  have HW1 := Lib.hid hW1
  have HHE := Lib.hid hH
  have HB2 := Lib.hid (fun wx (h : Grew W0 wx) => hb2.grew h)
  have HG0 := Lib.hid hg0
  have HG1 := Lib.hid hg1
  have HS0 := Lib.hid hs0
  have HRD := Lib.hid hrd
  have hlong' := hl
  rw [← hn] at hc ⊢
  have HCC := Lib.hid hc
  have hnn : n ≤ 100000 := by omega
  clear hR hW0 hH hb2 hg0 hs0 hW1 hg1 hrd hr hn hl
  have HBAD := Lib.hid (fun (e : Int) (wx : World) (h : Grew W0 wx) => show DecA (⟨#[]⟩, 0, [], e) (wx.setRow H zA.toArray) (.tuple #[.agg zA.toArray, .int .i64 e]) ∧ Grew w (wx.setRow H zA.toArray) from ⟨decA_none e _, Grew.setRow (Grew.trans HG0.out h) (by have := HHE.out; omega) _⟩)
  by_cases hlong : 65536 < n
  · have hres : R = (⟨#[]⟩, 0, [], 2) := by rw [HRE.out]; unfold decR; rw [if_pos (by rw [← HN.out]; exact hlong)]
    subst hres
    have d1 : decide (65536 < (n : Int)) = true := decide_eq_true (by omega)
    have d2 : decide (65536 < n) = true := decide_eq_true hlong
    go_enter Try.func27, Try.ntmps27
    have h4 := HB2.out W0 (Grew.refl _)
    rw [HWE.out, HHE.out] at h4
    go_wp2_with (first | refine wpList_store_blk (c := zA) h4 (by rfl) 27 (.tmp 2) (.tmp 12) (by rfl) (by rfl) (by rfl) (by kernel_rfl) rfl (by kernel_rfl) ?_)
    rw [← HWE.out, ← HHE.out]
    have h4 := HB2.out W0 (Grew.refl _)
    exact bodyPost_ret (results_ct rfl _ _ H 27 zA.toArray (0, 0) _ rfl (h4.setRow zA) Try.underlying27 (by rfl) (by rfl)) rfl ⟨_, rfl, by exact (HBAD.out 2 W0 (Grew.refl _)).1, by exact (HBAD.out 2 W0 (Grew.refl _)).2⟩
  · have d1 : decide (65536 < (n : Int)) = false := decide_eq_false (by omega)
    have d2 : decide (65536 < n) = false := decide_eq_false hlong
    have hdr : R = match decP l with | some (a, b, es) => (a, b, es, 0) | none => (⟨#[]⟩, 0, [], 4) := by rw [HRE.out]; unfold decR; rw [if_neg (by rw [← HN.out]; exact hlong)] <;> (cases decP l <;> rfl)
    have HDR := Lib.hid hdr
    have HBADR := Lib.hid (show decP l = none → R = (⟨#[]⟩, 0, [], 4) from fun h => by rw [hdr, h])
    clear hdr hlong
    -- Grew W0 of what changes the reader only
    have HUP := Lib.hid (fun (wx wy : World) (h : Grew W0 wx) (hu : Upd (fun j => j = H + 1) wx wy) => show Grew W0 wy from ((Upd.of_grew (S := fun j => j = H + 1) h).trans hu).grew (fun j hj e => by have := HS0.out; omega))
    go_enter Try.func27, Try.ntmps27
    go_wp2_with fail
    rw [← HWE.out, ← HHE.out]
    clear d1 d2
    rw [← HW1.out]
    obtain ⟨q1, hq1⟩ : ∃ q1, q1 = textQ 32 (some l) := ⟨_, rfl⟩
    have HT1 := Lib.hid (HTE.out W1 _ (Grew.trans HG0.out HG1.out) HRD.out)
    rw [← hq1] at HT1
    obtain ⟨ts, hts⟩ : ∃ ts, ts = strOfNums q1.1 := ⟨_, rfl⟩
    rw [← hts] at HT1
    have HTS := Lib.hid hts
    have HQ1 := Lib.hid hq1
    clear hts hq1
    refine HT1.out.mono ?_
    rintro e w2 ⟨_, rfl, ⟨rfl, hr2⟩, hu2⟩
    have hg2 := HUP.out W1 w2 HG1.out hu2
    obtain ⟨G, hG⟩ : ∃ G, G = w2.heap.size := ⟨_, rfl⟩
    obtain ⟨W2, hW2⟩ : ∃ W2, W2 = w2.alloc (.cells #[.string ts, .int .i64 0, .slice none 0 0] 27) := ⟨_, rfl⟩
    have hbG : Blk W2 G 27 [.string ts, .int .i64 0, .slice none 0 0] := by rw [hW2, hG]; exact Blk.new _ _ _
    have hgr2 : Grew w2 W2 := by rw [hW2]; exact Grew.alloc _ _
    have hGG : H + 1 < G := by
      obtain ⟨_, _, _, hx, _⟩ := hr2
      have := hx.lt
      omega
    have hG2 := Grew.trans hg2 hgr2
    have hR2 := hr2.grew hgr2
    have HW2 := Lib.hid hW2
    have HGE := Lib.hid hG
    have HBG := Lib.hid hbG
    have HG2 := Lib.hid hG2
    have HR2 := Lib.hid hR2
    clear hW2 hG hbG hgr2 hG2 hR2 hr2 hu2 hg2
    go_wp2_with fail
    rw [← HW2.out, ← HGE.out]
    -- the number of the last
    obtain ⟨q2, hq2⟩ : ∃ q2, q2 = numQ q1.2 := ⟨_, rfl⟩
    have HT2 := Lib.hid (HNU.out W2 _ (Grew.trans HG0.out HG2.out) HR2.out)
    rw [← hq2] at HT2
    obtain ⟨la, hla⟩ : ∃ la, la = q2.1 := ⟨_, rfl⟩
    rw [← hla] at HT2
    have HLA := Lib.hid hla
    have HQ2 := Lib.hid hq2
    clear hla hq2
    refine HT2.out.mono ?_
    rintro e w3 ⟨_, rfl, ⟨rfl, hr3⟩, hu3⟩
    have hg3 := HUP.out W2 w3 HG2.out hu3
    have hb3 := HBG.out.upd hu3 (by omega)
    have k1 := hb3.at_ 1
    have z1 := hb3.fz 1
    simp only [List.getElem?_cons_zero, List.getElem?_cons_succ] at k1
    have hb3' : Blk (w3.setCell ⟨G, 1, none⟩ (.int .i64 la)) G 27 [.string ts, .int .i64 la, .slice none 0 0] := hb3.set 1 (.int .i64 la)
    have hu3' : Upd (fun j => j = G) w3 (w3.setCell ⟨G, 1, none⟩ (.int .i64 la)) := Upd.set (S := fun j => j = G) (p := ⟨G, 1, none⟩) (Upd.refl _ _) (.inl rfl) _
    have hr3' := hr3.upd hu3' (by omega)
    have hg3' : Grew W0 (w3.setCell ⟨G, 1, none⟩ (.int .i64 la)) := ((Upd.of_grew (S := fun j => j = G) hg3).trans hu3').grew (fun j hj e => by have := HS0.out; omega)
    obtain ⟨W3, hW3⟩ : ∃ W3, W3 = w3.setCell ⟨G, 1, none⟩ (.int .i64 la) := ⟨_, rfl⟩
    rw [← hW3] at hb3' hr3' hg3'
    have HW3 := Lib.hid hW3
    have HB3 := Lib.hid hb3'
    have HR3 := Lib.hid hr3'
    have HG3 := Lib.hid hg3'
    clear hW3 hb3' hr3' hg3' hu3' hb3 hg3 hr3 hu3
    go_wp2_with fail
    rw [← HW3.out]
    clear k1 z1
    -- how many
    obtain ⟨q3, hq3⟩ : ∃ q3, q3 = numQ q2.2 := ⟨_, rfl⟩
    obtain ⟨m, hm, hmm⟩ := numQ_nat q2.2
    have HT3 := Lib.hid (HNU.out W3 _ (Grew.trans HG0.out HG3.out) HR3.out)
    rw [hm, ← hq3] at HT3
    rw [← hq3] at hm
    have HM := Lib.hid hm
    have HQ3 := Lib.hid hq3
    clear hm hq3
    refine HT3.out.mono ?_
    rintro e w4 ⟨_, rfl, ⟨rfl, hr4⟩, hu4⟩
    have hg4 := HUP.out W3 w4 HG3.out hu4
    have hb4 := HB3.out.upd hu4 (by omega)
    have HR4 := Lib.hid hr4
    have HG4 := Lib.hid hg4
    have HB4 := Lib.hid hb4
    clear hr4 hg4 hb4 hu4
    go_wp2_with fail
    obtain ⟨s3, hs3⟩ : ∃ s3, s3 = q3.2 := ⟨_, rfl⟩
    rw [← hs3] at HR4
    have HEND := Lib.hid (fun (i : Nat) (s : Option (List Int)) (L : List En) => decP_end (l := l) (ts := ts) (la := la) (m := m) (i := i) (s3 := s3) (s := s) (L := L) (by rw [← HQ1.out, HTS.out]) (by rw [← HQ1.out, ← HQ2.out, HLA.out]) (by rw [← HQ1.out, ← HQ2.out, ← HQ3.out, HM.out]) (by rw [← HQ1.out, ← HQ2.out, ← HQ3.out, hs3]))
    clear hs3
    have hG0 : H + 1 + 1 ≤ G := hGG
    go_loopw [7] (fun iv wr => ∃ (i : Nat) (s : Option (List Int)) (L : List En) (va : Value), iv = .int .i64 (i : Int) ∧ i ≤ m ∧ i ≤ 9 ∧ entsQ i s3 = (L, s) ∧ RdB wr (H + 1) A c l s ∧ Blk wr G 27 [.string ts, .int .i64 la, va] ∧ RowO wr (G + 1) 36 5 va i (ens L) ∧ Grew W0 wr) (fun iv _ => 10 - (intOf iv).toNat)
    case atStart => exact ⟨0, s3, [], _, rfl, Nat.zero_le _, Nat.zero_le _, rfl, HR4.out, HB4.out, rowO_nil _ _ _ _, HG4.out⟩
    case round =>
      obtain ⟨i, s, L, va, rfl, hi, hi9, hst, hrd, hbG, hro, hgr⟩ := hrel
      obtain ⟨Av, cv, rfl, hcv⟩ := hro.slice
      have hlL : L.length = i := by have := entsQ_len i s3; rw [hst] at this; exact this
      have HLL := Lib.hid hlL
      have HST := Lib.hid hst
      have HRDD := Lib.hid hrd
      have HBG := Lib.hid hbG
      have HRO := Lib.hid hro
      have HGR := Lib.hid hgr
      obtain ⟨at_, bd, hat, hbd, hsb⟩ := hrd
      rw [← HN.out] at hbd
      have HBD := Lib.hid hbd
      have HSB := Lib.hid hsb
      have r1 := hbd.at_ 1
      have r2 := hbd.at_ 2
      simp only [List.getElem?_cons_zero, List.getElem?_cons_succ] at r1 r2
      have wi : IntKind.i64.wrap ((i : Int) + 1) = (i : Int) + 1 := IntWalk.i64_in _ (by omega)
      clear hlL hst hbG hro hgr hbd hsb
      by_cases hgo : i < m ∧ i ≤ 8 ∧ bd = false
      · obtain ⟨hlt, hi8, rfl⟩ := hgo
        have d1 : decide ((i : Int) < (m : Int)) = true := decide_eq_true (by omega)
        have d2 : decide (i < m) = true := decide_eq_true hlt
        have d3 : decide ((i : Int) ≤ 8) = true := decide_eq_true (by omega)
        have d4 : decide (i ≤ 8) = true := decide_eq_true hi8
        go_wp2_with fail
        clear d1 d2 d3 d4 r1 r2
        have HK0 := Lib.hid (show KeepD W0 G ts la (.slice Av i cv) i L wr from ⟨HBG.out, HRO.out, HGR.out⟩)
        obtain ⟨p1, hp1⟩ : ∃ p, p = numQ s := ⟨_, rfl⟩
        have C1 := Lib.hid (HNU.out wr s (Grew.trans HG0.out HK0.out.grew) HRDD.out)
        rw [← hp1] at C1
        obtain ⟨x1, hx1⟩ : ∃ x, x = p1.1 := ⟨_, rfl⟩
        rw [← hx1] at C1
        have HP1 := Lib.hid hp1
        have HX1 := Lib.hid hx1
        clear hp1 hx1
        refine C1.out.mono ?_
        rintro e v1 ⟨_, rfl, ⟨rfl, hr1⟩, hu1⟩
        have HK1 := Lib.hid (HK0.out.of_upd hu1 (by omega) (fun k hk e => by have := HK0.out.row.base_ k hk; omega) (fun k hk e => by have := HS0.out; omega))
        have HR1 := Lib.hid hr1
        clear hr1 hu1
        go_wp2_with fail
        obtain ⟨p2, hp2⟩ : ∃ p, p = numQ p1.2 := ⟨_, rfl⟩
        have C2 := Lib.hid (HNU.out v1 p1.2 (Grew.trans HG0.out HK1.out.grew) HR1.out)
        rw [← hp2] at C2
        obtain ⟨x2, hx2⟩ : ∃ x, x = p2.1 := ⟨_, rfl⟩
        rw [← hx2] at C2
        have HP2 := Lib.hid hp2
        have HX2 := Lib.hid hx2
        clear hp2 hx2
        refine C2.out.mono ?_
        rintro e v2 ⟨_, rfl, ⟨rfl, hr2⟩, hu2⟩
        have HK2 := Lib.hid (HK1.out.of_upd hu2 (by omega) (fun k hk e => by have := HK1.out.row.base_ k hk; omega) (fun k hk e => by have := HS0.out; omega))
        have HR2 := Lib.hid hr2
        clear hr2 hu2
        go_wp2_with fail
        obtain ⟨p3, hp3⟩ : ∃ p, p = numQ p2.2 := ⟨_, rfl⟩
        have C3 := Lib.hid (HNU.out v2 p2.2 (Grew.trans HG0.out HK2.out.grew) HR2.out)
        rw [← hp3] at C3
        obtain ⟨x3, hx3⟩ : ∃ x, x = p3.1 := ⟨_, rfl⟩
        rw [← hx3] at C3
        have HP3 := Lib.hid hp3
        have HX3 := Lib.hid hx3
        clear hp3 hx3
        refine C3.out.mono ?_
        rintro e v3 ⟨_, rfl, ⟨rfl, hr3⟩, hu3⟩
        have HK3 := Lib.hid (HK2.out.of_upd hu3 (by omega) (fun k hk e => by have := HK2.out.row.base_ k hk; omega) (fun k hk e => by have := HS0.out; omega))
        have HR3 := Lib.hid hr3
        clear hr3 hu3
        obtain ⟨g8, hg8⟩ : ∃ g8, g8 = v3.heap.size := ⟨_, rfl⟩
        obtain ⟨W4, hW4⟩ : ∃ W4, W4 = v3.alloc (.cells #[.int .i64 x1, .int .i64 x2, .int .i64 x3, .string ⟨#[]⟩, .int .i64 0] 36) := ⟨_, rfl⟩
        have hgr4 : Grew v3 W4 := by rw [hW4]; exact Grew.alloc _ _
        have HE4 := Lib.hid (show Blk W4 g8 36 [.int .i64 x1, .int .i64 x2, .int .i64 x3, .string ⟨#[]⟩, .int .i64 0] from by rw [hW4, hg8]; exact Blk.new _ _ _)
        have HKW4 := Lib.hid (HK3.out.of_grew hgr4)
        have HRW4 := Lib.hid (HR3.out.grew hgr4)
        have hg8G : G < g8 := by rw [hg8]; exact HK3.out.blk.lt
        have HRB := Lib.hid (show ∀ k, (Value.slice Av i cv).ownBlock = some k → k < g8 from fun k hk => by rw [hg8]; exact HK3.out.row.lt k hk)
        have HW4 := Lib.hid hW4
        have HG8 := Lib.hid hg8
        clear hW4 hg8 hgr4
        go_wp2_with fail
        rw [← HW4.out, ← HG8.out]
        obtain ⟨p4, hp4⟩ : ∃ p, p = textQ 32 p3.2 := ⟨_, rfl⟩
        have C4 := Lib.hid (HTE.out W4 p3.2 (Grew.trans HG0.out HKW4.out.grew) HRW4.out)
        rw [← hp4] at C4
        obtain ⟨x4, hx4⟩ : ∃ x, x = strOfNums p4.1 := ⟨_, rfl⟩
        rw [← hx4] at C4
        have HP4 := Lib.hid hp4
        have HX4 := Lib.hid hx4
        clear hp4 hx4
        refine C4.out.mono ?_
        rintro e v4 ⟨_, rfl, ⟨rfl, hr4⟩, hu4⟩
        have HK4 := Lib.hid (HKW4.out.of_upd hu4 (by omega) (fun k hk e => by have := HKW4.out.row.base_ k hk; omega) (fun k hk e => by have := HS0.out; omega))
        have HR4 := Lib.hid hr4
        have he4 := HE4.out.upd hu4 (by omega)
        have c3 := he4.at_ 3
        have z3 := he4.fz 3
        simp only [List.getElem?_cons_zero, List.getElem?_cons_succ] at c3
        have hu5 : Upd (fun j => j = g8) v4 (v4.setCell ⟨g8, 3, none⟩ (.string x4)) := Upd.set (S := fun j => j = g8) (p := ⟨g8, 3, none⟩) (Upd.refl _ _) (.inl rfl) _
        have he5 : Blk (v4.setCell ⟨g8, 3, none⟩ (.string x4)) g8 36 [.int .i64 x1, .int .i64 x2, .int .i64 x3, .string x4, .int .i64 0] := he4.set 3 (.string x4)
        obtain ⟨W5, hW5⟩ : ∃ W5, W5 = v4.setCell ⟨g8, 3, none⟩ (.string x4) := ⟨_, rfl⟩
        rw [← hW5] at hu5 he5
        have HKW5 := Lib.hid (HK4.out.of_upd hu5 (by omega) (fun k hk e => by have := HRB.out k hk; omega) (fun k hk e => by have := HS0.out; omega))
        have HRW5 := Lib.hid (HR4.out.upd hu5 (by omega))
        have HE5 := Lib.hid he5
        have HW5 := Lib.hid hW5
        clear hu4 hr4 he4 hu5 he5 hW5
        go_wp2_with fail
        rw [← HW5.out]
        clear c3 z3
        obtain ⟨p5, hp5⟩ : ∃ p, p = numQ p4.2 := ⟨_, rfl⟩
        have C5 := Lib.hid (HNU.out W5 p4.2 (Grew.trans HG0.out HKW5.out.grew) HRW5.out)
        rw [← hp5] at C5
        obtain ⟨x5, hx5⟩ : ∃ x, x = p5.1 := ⟨_, rfl⟩
        rw [← hx5] at C5
        have HP5 := Lib.hid hp5
        have HX5 := Lib.hid hx5
        clear hp5 hx5
        refine C5.out.mono ?_
        rintro e v5 ⟨_, rfl, ⟨rfl, hr5⟩, hu5⟩
        have HK5 := Lib.hid (HKW5.out.of_upd hu5 (by omega) (fun k hk e => by have := HKW5.out.row.base_ k hk; omega) (fun k hk e => by have := HS0.out; omega))
        have HR5 := Lib.hid hr5
        have he6 := HE5.out.upd hu5 (by omega)
        have c4 := he6.at_ 4
        have z4 := he6.fz 4
        simp only [List.getElem?_cons_zero, List.getElem?_cons_succ] at c4
        have hu6 : Upd (fun j => j = g8) v5 (v5.setCell ⟨g8, 4, none⟩ (.int .i64 x5)) := Upd.set (S := fun j => j = g8) (p := ⟨g8, 4, none⟩) (Upd.refl _ _) (.inl rfl) _
        have he7 : Blk (v5.setCell ⟨g8, 4, none⟩ (.int .i64 x5)) g8 36 [.int .i64 x1, .int .i64 x2, .int .i64 x3, .string x4, .int .i64 x5] := he6.set 4 (.int .i64 x5)
        obtain ⟨W6, hW6⟩ : ∃ W6, W6 = v5.setCell ⟨g8, 4, none⟩ (.int .i64 x5) := ⟨_, rfl⟩
        rw [← hW6] at hu6 he7
        have hs6 : W6.heap.size = v5.heap.size := by rw [hW6]; simp [World.setCell]
        have hk6 := HK5.out.of_upd hu6 (by omega) (fun k hk e => by have := HRB.out k hk; omega) (fun k hk e => by have := HS0.out; omega)
        have hr6 := HR5.out.upd hu6 (by omega)
        obtain ⟨W7, hW7⟩ : ∃ W7, W7 = W6.alloc (.cells (enc5 ⟨x1, x2, x3, x4, x5⟩).toArray 36) := ⟨_, rfl⟩
        have hg67 : Grew W6 W7 := by rw [hW7]; exact Grew.alloc _ _
        have hbn : Blk W7 W6.heap.size 36 (enc5 ⟨x1, x2, x3, x4, x5⟩) := by rw [hW7]; exact Blk.new _ _ _
        have hk7 := hk6.of_grew hg67
        have hr7 := hr6.grew hg67
        have hlt7 := hk7.blk.lt
        obtain ⟨y8, w8, hrun, hro8, hgr8, hnb8⟩ := app_rowO (P := Try.prog) W7 (G + 1) 22 36 22 (.agg #[.int .i64 0, .int .i64 0, .int .i64 0, .string ⟨#[]⟩, .int .i64 0]) 5 48 Try.underlying22 infoEn rfl (by decide) (by decide) (.slice Av i cv) i (ens L) W6.heap.size (enc5 ⟨x1, x2, x3, x4, x5⟩) rfl (enc5_one _) hk7.row hbn (by omega) (by omega)
        rw [← ens_snoc] at hro8
        have hu8 := Upd.of_grown hgr8
        have hb8 := hk7.blk.upd hu8 (hk7.row.ne hk7.blk (by decide))
        have hr8 := hr7.upd hu8 (fun e => by have := hk7.row.base_ _ e; omega)
        have hg08 : Grew W0 w8 := ((Upd.of_grew (S := fun j => (Value.slice Av i cv).ownBlock = some j) hk7.grew).trans hu8).grew (fun j hj e => by have h1 := hk7.row.base_ j e; have h2 := HS0.out; omega)
        have hset : Blk (w8.setCell ⟨G, 2, none⟩ y8) G 27 [.string ts, .int .i64 la, y8] := hb8.set 2 y8
        have hu9 : Upd (fun j => j = G) w8 (w8.setCell ⟨G, 2, none⟩ y8) := Upd.set (S := fun j => j = G) (p := ⟨G, 2, none⟩) (Upd.refl _ _) (.inl rfl) _
        have hro9 := RowO.upd (S := fun j => j = G) hro8 hu9 (fun j hj e => by have := hro8.base_ j hj; omega)
        have hg09 : Grew W0 (w8.setCell ⟨G, 2, none⟩ y8) := ((Upd.of_grew (S := fun j => j = G) hg08).trans hu9).grew (fun j hj e => by have h2 := HS0.out; omega)
        have HR9 := Lib.hid (hr8.upd hu9 (by omega))
        have HSET := Lib.hid hset
        have HRO9 := Lib.hid hro9
        have HG09 := Lib.hid hg09
        have HS2 := Lib.hid (show entsQ (i + 1) s3 = (L ++ [⟨x1, x2, x3, x4, x5⟩], p5.2) from by
          simp only [entsQ]
          rw [HST.out]
          simp only
          unfold entQ
          rw [← HP1.out, ← HP2.out, ← HP3.out, ← HP4.out, ← HP5.out, ← HX1.out, ← HX2.out, ← HX3.out, ← HX4.out, ← HX5.out])
        have c2 := hk6.blk.at_ 2
        have f0 := he7.at_ 0
        have f1 := he7.at_ 1
        have f2 := he7.at_ 2
        have f3 := he7.at_ 3
        have f4 := he7.at_ 4
        have k2 := hb8.at_ 2
        have z2 := hb8.fz 2
        simp only [List.getElem?_cons_zero, List.getElem?_cons_succ] at c2 f0 f1 f2 f3 f4 k2
        rw [hs6] at hrun
        subst hW7
        subst hW6
        have HRUN := Lib.hid hrun
        obtain ⟨A8, c8, rfl, hc8⟩ := hro8.slice
        clear he6 hu6 he7 hs6 hk6 hr6 hg67 hbn hk7 hr7 hlt7 hrun hro8 hgr8 hnb8 hu8 hb8 hr8 hg08 hset hu9 hro9 hg09 hu5 hr5
        go_wp2_with (at_builtin; refine wpList_app (by rfl) (.tmp 54) (.tmp 56) 22 (by rfl) (by rfl) (by rfl) HRUN.out ?_)
        go_roundw
        case rel => exact ⟨i + 1, _, _, _, by go_num, by omega, by omega, HS2.out, HR9.out, HSET.out, HRO9.out, HG09.out⟩
        case measure => simp [intOf]; omega
      · have hend := HEND.out i s L HST.out hi (fun h => hgo ⟨h.1, h.2.1, by
          cases bd with
          | false => rfl
          | true => exact absurd HSB.out h.2.2⟩)
        have HED := Lib.hid hend
        have c0 := HBG.out.at_ 0
        have c1 := HBG.out.at_ 1
        have c2 := HBG.out.at_ 2
        simp only [List.getElem?_cons_zero, List.getElem?_cons_succ] at c0 c1 c2
        obtain ⟨A9, c9, hv9, hc9, hC9⟩ := rowO_C HRO.out HLL.out
        injection hv9 with hv91 hv92 hv93
        subst hv91 hv93
        have HMAY := Lib.hid (fun wx (h : Grew wr wx) => may_c ts la Av cv L wx (Kd.C_below (by rw [HLL.out]; exact hC9) h) (by rw [HLL.out]; exact hc9))
        rw [HLL.out] at HMAY
        have HC9 := Lib.hid hC9
        clear hend hC9 hv92
        cases bd with
        | true =>
          have hres := HBADR.out (by rw [HED.out, if_neg (fun h => by have := h.1; rw [HSB.out] at this; cases this)])
          subst hres
          have hex : ¬ i < m ∨ (i < m ∧ ¬ i ≤ 8) ∨ (i < m ∧ i ≤ 8) := by omega
          clear hgo
          rcases hex with hx | hx | hx
          case' inl =>
            have d1 : decide ((i : Int) < (m : Int)) = false := decide_eq_false (by omega)
            have d2 : decide (i < m) = false := decide_eq_false hx
          case' inr.inl =>
            have d1 : decide ((i : Int) < (m : Int)) = true := decide_eq_true (by omega)
            have d2 : decide (i < m) = true := decide_eq_true hx.1
            have d3 : decide ((i : Int) ≤ 8) = false := decide_eq_false (by omega)
            have d4 : decide (i ≤ 8) = false := decide_eq_false hx.2
          case' inr.inr =>
            have d1 : decide ((i : Int) < (m : Int)) = true := decide_eq_true (by omega)
            have d2 : decide (i < m) = true := decide_eq_true hx.1
            have d3 : decide ((i : Int) ≤ 8) = true := decide_eq_true (by omega)
            have d4 : decide (i ≤ 8) = true := decide_eq_true hx.2
          all_goals
            clear hx
            have h4 := HB2.out wr HGR.out
            go_wp2_with (first | refine wpList_store_blk (c := zA) h4 (by rfl) 27 (.tmp 2) (.tmp 84) (by rfl) (by rfl) (by rfl) (by kernel_rfl) rfl (by kernel_rfl) ?_)
            exact bodyPost_ret (results_ct rfl _ _ H 27 zA.toArray (0, 0) _ rfl (h4.setRow zA) Try.underlying27 (by rfl) (by rfl)) rfl ⟨_, rfl, by exact (HBAD.out 4 wr HGR.out).1, by exact (HBAD.out 4 wr HGR.out).2⟩
        | false =>
          have hex : ¬ i < m ∨ (i < m ∧ ¬ i ≤ 8) := by
            by_cases h1 : i < m
            · exact .inr ⟨h1, fun h2 => hgo ⟨h1, h2, rfl⟩⟩
            · exact .inl h1
          clear hgo
          have hsd : s = some (l.drop at_) := HSB.out
          have HSD := Lib.hid hsd
          clear hsd
          rcases hex with hx | hx
          case' inl =>
            have d1 : decide ((i : Int) < (m : Int)) = false := decide_eq_false (by omega)
            have d2 : decide (i < m) = false := decide_eq_false hx
          case' inr =>
            have d1 : decide ((i : Int) < (m : Int)) = true := decide_eq_true (by omega)
            have d2 : decide (i < m) = true := decide_eq_true hx.1
            have d3 : decide ((i : Int) ≤ 8) = false := decide_eq_false (by omega)
            have d4 : decide (i ≤ 8) = false := decide_eq_false hx.2
          all_goals
            clear hx
            by_cases hbn : at_ = n
            · have e1 : ((at_ : Int) != (n : Int)) = false := by simp [hbn]
              have e2 : ((at_ : Int) == (n : Int)) = true := by simp [hbn]
              have HBN := Lib.hid hbn
              clear hbn
              by_cases hmi : m = i
              · have e3 : ((m : Int) != (i : Int)) = false := by simp [hmi]
                have e4 : ((m : Int) == (i : Int)) = true := by simp [hmi]
                have HMI := Lib.hid hmi
                clear hmi
                cases hmay : mayP ts la L with
                | true =>
                  rw [hmay] at HMAY
                  have hres : R = (ts, la, L, 0) := by rw [HDR.out, HED.out, if_pos ⟨by rw [HSD.out, List.drop_of_length_le (by rw [HBN.out, HN.out]; exact Nat.le_refl _)], HMI.out, hmay⟩]
                  subst hres
                  clear hmay
                  go_wp2_with fail
                  refine (HMAY.out wr (Grew.refl _)).mono ?_
                  rintro e w6 ⟨_, rfl, rfl, hg6⟩
                  have h4 := HB2.out w6 (Grew.trans HGR.out hg6)
                  have hbG := HBG.out.grew hg6
                  clear c0 c1 c2 e1 e2 e3 e4 d1 d2 r1 r2
                  go_wp2_with (first | refine wpList_load_blk hbG (by rfl) 27 (.tmp 5) (by rfl) (by rfl) _ Try.underlying27 (by rfl) (by kernel_rfl) ?_ | refine wpList_store_blk (c := [.string ts, .int .i64 la, .slice Av i cv]) h4 (by rfl) 27 (.tmp 2) (.tmp 85) (by rfl) (by rfl) (by rfl) (by kernel_rfl) rfl (zA_one _ _ _ _ _) ?_)
                  exact bodyPost_ret (results_ct rfl _ _ H 27 ([.string ts, .int .i64 la, .slice Av i cv] : List Value).toArray (0, 0) _ rfl (h4.setRow [.string ts, .int .i64 la, .slice Av i cv]) Try.underlying27 (by rfl) (by rfl)) rfl ⟨_, rfl, by
                    refine ⟨Av, cv, by rw [HLL.out]; rfl, by rw [HLL.out]; exact hc9, ?_⟩
                    rw [HLL.out]
                    exact C_setRow (Kd.C_below HC9.out hg6) h4 rfl _, by exact Grew.setRow (Grew.trans HG0.out (Grew.trans HGR.out hg6)) (by have := HHE.out; omega) _⟩
                | false =>
                  rw [hmay] at HMAY
                  have hres := HBADR.out (by rw [HED.out, if_neg (by rw [hmay]; simp)])
                  subst hres
                  clear hmay
                  go_wp2_with fail
                  refine (HMAY.out wr (Grew.refl _)).mono ?_
                  rintro e w6 ⟨_, rfl, rfl, hg6⟩
                  have h4 := HB2.out w6 (Grew.trans HGR.out hg6)
                  go_wp2_with (first | refine wpList_store_blk (c := zA) h4 (by rfl) 27 (.tmp 2) (.tmp 84) (by rfl) (by rfl) (by rfl) (by kernel_rfl) rfl (by kernel_rfl) ?_)
                  exact bodyPost_ret (results_ct rfl _ _ H 27 zA.toArray (0, 0) _ rfl (h4.setRow zA) Try.underlying27 (by rfl) (by rfl)) rfl ⟨_, rfl, by exact (HBAD.out 4 w6 (Grew.trans HGR.out hg6)).1, by exact (HBAD.out 4 w6 (Grew.trans HGR.out hg6)).2⟩
              · have e3 : ((m : Int) != (i : Int)) = true := by simp; omega
                have e4 : ((m : Int) == (i : Int)) = false := by simp; omega
                have hres := HBADR.out (by rw [HED.out, if_neg (fun h => hmi h.2.1)])
                subst hres
                clear hmi
                have h4 := HB2.out wr HGR.out
                go_wp2_with (first | refine wpList_store_blk (c := zA) h4 (by rfl) 27 (.tmp 2) (.tmp 84) (by rfl) (by rfl) (by rfl) (by kernel_rfl) rfl (by kernel_rfl) ?_)
                exact bodyPost_ret (results_ct rfl _ _ H 27 zA.toArray (0, 0) _ rfl (h4.setRow zA) Try.underlying27 (by rfl) (by rfl)) rfl ⟨_, rfl, by exact (HBAD.out 4 wr HGR.out).1, by exact (HBAD.out 4 wr HGR.out).2⟩
            · have e1 : ((at_ : Int) != (n : Int)) = true := by simp; omega
              have e2 : ((at_ : Int) == (n : Int)) = false := by simp; omega
              have hres := HBADR.out (by
                rw [HED.out, if_neg (fun h => hbn ?_)]
                have h1 := h.1
                rw [HSD.out] at h1
                have := congrArg List.length (Option.some.inj h1)
                rw [List.length_drop] at this
                have := HN.out
                simp at *; omega)
              subst hres
              clear hbn
              have h4 := HB2.out wr HGR.out
              go_wp2_with (first | refine wpList_store_blk (c := zA) h4 (by rfl) 27 (.tmp 2) (.tmp 84) (by rfl) (by rfl) (by rfl) (by kernel_rfl) rfl (by kernel_rfl) ?_)
              exact bodyPost_ret (results_ct rfl _ _ H 27 zA.toArray (0, 0) _ rfl (h4.setRow zA) Try.underlying27 (by rfl) (by rfl)) rfl ⟨_, rfl, by exact (HBAD.out 4 wr HGR.out).1, by exact (HBAD.out 4 wr HGR.out).2⟩
end Go.Proofs.Ytmifoihfpjomaaa.F

-- AudQ
namespace Go.Proofs.Ytmifoihfpjomaaa.F
open Go Go.RowKit Go.Proofs.YtmifoihfpjomaaaW.PrintWords Go.Proofs.YtmifoihfpjomaaaW.PrintLast Go.Proofs.YtmifoihfpjomaaaW.PrintMore Go.Proofs.YtmifoihfpjomaaaM Go.Proofs.YtmifoihfpjomaaaR
attribute [local go_sem] max2_int min2_int max_two min_two
set_option linter.unusedSimpArgs false
set_option linter.unusedVariables false
set_option maxRecDepth 100000
theorem flatE_len : ∀ {l : List En}, (∀ e ∈ l, goodP e = true) → (l.flatMap bytesE).length ≤ l.length * 100
  | [], _ => by simp
  | e :: l, h => by
    rw [List.flatMap_cons, List.length_append, List.length_cons]
    have h1 := bytesE_len (h e (by simp))
    have h2 := flatE_len (l := l) (fun q hq => h q (by simp [hq]))
    omega
theorem enc_l0 (l : List En) (hl : l.length ≤ 8) (hg : ∀ e ∈ l, goodP e = true) : ∀ (suf pre : List En) (k : Nat) (acc : List Int), l = pre ++ suf → suf.length + 12 ≤ k → acc.length + suf.length * 100 ≤ 100000 →
    audit_Encode.l0 k acc l (l.length : Int) (pre.length : Int) = some (acc ++ suf.flatMap bytesE, 0) := by
  intro suf
  induction suf with
  | nil =>
    intro pre k acc hp hk ha
    obtain ⟨k, rfl⟩ : ∃ m, k = m + 1 := ⟨k - 1, by omega⟩
    have : pre.length = l.length := by rw [hp]; simp
    simp only [audit_Encode.l0]
    rw [if_neg (by omega)]
    simp
  | cons e suf ih =>
    intro pre k acc hp hk ha
    obtain ⟨k, rfl⟩ : ∃ m, k = m + 1 := ⟨k - 1, by omega⟩
    simp only [List.length_cons] at hk ha
    have hlen : pre.length + (suf.length + 1) = l.length := by rw [hp]; simp
    have hrd : rd_T36 l (pre.length : Int) = e := by rw [hp]; exact rd_mid pre suf e
    have hge := hg e (by rw [hp]; simp)
    have hbl := bytesE_len hge
    simp only [audit_Encode.l0]
    rw [if_pos (by omega), if_pos (by omega), if_pos (by omega), hrd, bytes_f e hge k (by omega), obs, if_pos (by rw [str_size]; omega), w64 (x := (pre.length : Int) + 1) (by omega) (by omega), bytesOf_str (bytesE_bytes e)]
    have := ih (pre ++ [e]) k (acc ++ bytesE e) (by rw [hp]; simp) (by omega) (by rw [List.length_append]; omega)
    rw [show (((pre ++ [e]).length : Nat) : Int) = (pre.length : Int) + 1 from by simp] at this
    rw [this]
    simp
def encA (a : ByteArray) (last : Int) (l : List En) : List Int × Int := cond (mayP a last l) (encP a last l, 0) ([], 1)
theorem enc_f (a : ByteArray) (last : Int) (l : List En) : audit_Encode.f 30 a last l = some (encA a last l) := by
  unfold audit_Encode.f encA
  rw [may_f a last l 30 (by omega), obs]
  cases h : mayP a last l with
  | false => rfl
  | true =>
    have r := mayR h
    have r0 := r.l0; have r1 := r.l1; have r2 := r.len; have r3 := r.sz
    have t1 := putL_ten (n := a.size) (by omega)
    have t2 := putL_ten (n := last.toNat) (by omega)
    have t3 := putL_ten (n := l.length) (by omega)
    have hT : (textL a).length ≤ 42 := by unfold textL; rw [List.length_append, bytesOf_length]; omega
    rw [if_pos rfl, putT_f 30 (by omega) [] a (by simp) (by omega), obs, nat_wrap (x := last) r0 (by omega), put_f 30 _ _ (by omega) (by omega) (by rw [List.nil_append]; omega), obs, u64_wraps (l.length : Int) (by omega) (by omega), put_f 30 _ _ (by omega) (by omega) (by simp only [List.nil_append, List.length_append]; omega), obs]
    have := enc_l0 l (by omega) r.good l [] 30 ([] ++ textL a ++ putL last.toNat ++ putL l.length) rfl (by omega) (by simp only [List.nil_append, List.length_append]; omega)
    rw [show ((([] : List En).length : Nat) : Int) = 0 from rfl] at this
    rw [this]
    simp [encP]
def EncB (r : List Int × Int) : World → Value → Prop := fun w v => ∃ v0, v = .tuple #[v0, .int .i64 r.2] ∧ Row r.1 w v0
theorem encode_c (a : ByteArray) (last : Int) (A : Option Addr) (c : Nat) (l : List En) (w : World) (hr : Kd.C k36 w A l.length l) (hc : l.length ≤ c) :
    Calls Try.prog 29 #[.agg #[.string a, .int .i64 last, .slice A l.length c]] w (Tells w (EncB (encA a last l))) := by
  refine (audit_Encode.calls 30 a last A c l (encA a last l).1 (encA a last l).2 w hr hc (enc_f a last l)).mono fun e w' ⟨v, he, hR, hb⟩ => ?_
  exact ⟨_, he, ⟨v, rfl, row_of_R hR⟩, hb⟩
theorem rd_atE {l : List En} {i : Nat} (h : i < l.length) : l[i]? = some (rd_T36 l (i : Int)) := by
  unfold rd_T36
  rw [Int.toNat_natCast, List.getD_eq_getElem?_getD, List.getElem?_eq_getElem h]; rfl
set_option maxHeartbeats 8000000 in
theorem rencode_c (a : ByteArray) (last : Int) (A : Option Addr) (c : Nat) (l : List En) (w : World) (hr : Kd.C k36 w A l.length l) (hc : l.length ≤ c) (hm : mayP a last l = true) :
    Calls Try.prog 30 #[.agg #[.string a, .int .i64 last, .slice A l.length c]] w (Tells w (Is (.string (strOfNums (encP a last l))))) := by
  have hmr := mayR hm
  have r0 := hmr.l0
  have r1 := hmr.l1
  have r2 := hmr.len
  have r3 := hmr.sz
  have HR := Lib.hid (fun wx (h : Grew w wx) => Kd.C_below hr h)
  have HGD := Lib.hid hmr.good
  obtain ⟨n, hn⟩ : ∃ n, n = l.length := ⟨_, rfl⟩
  have HN := Lib.hid hn
  have t1 := putL_ten (n := a.size) (by omega)
  have t2 := putL_ten (n := last.toNat) (by omega)
  have t3 := putL_ten (n := n) (by omega)
  rw [← hn] at hc r2 ⊢
  obtain ⟨W0, hW0⟩ : ∃ W0, W0 = w.alloc (.cells #[.string a, .int .i64 last, .slice A n c] 24) := ⟨_, rfl⟩
  obtain ⟨H, hH⟩ : ∃ H, H = w.heap.size := ⟨_, rfl⟩
  have hb1 : Blk W0 H 24 [.string a, .int .i64 last, .slice A n c] := by rw [hW0, hH]; exact Blk.new w _ _
  have hg0 : Grew w W0 := by rw [hW0]; exact Grew.alloc _ _
  have HB := Lib.hid (fun wx (h : Grew W0 wx) => And.intro ((hb1.grew h).at_ 0) (And.intro ((hb1.grew h).at_ 1) ((hb1.grew h).at_ 2)))
  simp only [List.getElem?_cons_zero, List.getElem?_cons_succ] at HB
  have HWE := Lib.hid hW0
  have HHE := Lib.hid hH
  have HG0 := Lib.hid hg0
  have HTX := Lib.hid (fun wx => rtext_c a wx (by omega))
  have HP1 := Lib.hid (fun wx => rput_c last.toNat wx (by omega))
  have HP2 := Lib.hid (fun wx => rput_c n wx (by omega))
  rw [show ((last.toNat : Nat) : Int) = last from by omega] at HP1
  obtain ⟨TA, hTA⟩ : ∃ TA, TA = strOfNums (putL a.size) ++ a := ⟨_, rfl⟩
  obtain ⟨P1, hP1⟩ : ∃ P1, P1 = strOfNums (putL last.toNat) := ⟨_, rfl⟩
  obtain ⟨P2, hP2⟩ : ∃ P2, P2 = strOfNums (putL n) := ⟨_, rfl⟩
  rw [← hTA] at HTX
  rw [← hP1] at HP1
  rw [← hP2] at HP2
  have hta : TA = strOfNums (textL a) := by rw [hTA]; unfold textL; rw [← str_append, str_bytesOf]
  have sz0 : TA.size ≤ 100 := by rw [hta, str_size]; unfold textL; rw [List.length_append, bytesOf_length]; omega
  have sz1 : P1.size ≤ 10 := by rw [hP1, str_size]; exact t2
  have sz2 : P2.size ≤ 10 := by rw [hP2, str_size]; exact t3
  obtain ⟨TP, hTP⟩ : ∃ TP, TP = TA ++ P1 := ⟨_, rfl⟩
  have htp : TP = strOfNums (textL a ++ putL last.toNat) := by rw [hTP, hta, hP1, str_append]
  have szp : TP.size = TA.size + P1.size := by rw [htp, hta, hP1, str_size, str_size, str_size, List.length_append]
  have HAD1 := Lib.hid (show ¬ 9223372036854775807 < TA.size + P1.size by omega)
  have HAD2 := Lib.hid (show ¬ 9223372036854775807 < TP.size + P2.size by omega)
  obtain ⟨HD, hHD⟩ : ∃ HD, HD = textL a ++ putL last.toNat ++ putL n := ⟨_, rfl⟩
  have HS0 := Lib.hid (show TP ++ P2 = strOfNums (HD ++ (l.take 0).flatMap bytesE) from by rw [htp, hP2, str_append, hHD]; simp)
  have hHl : HD.length ≤ 1000 := by
    rw [hHD, List.length_append, List.length_append]; unfold textL; rw [List.length_append, bytesOf_length]; omega
  have HTP := Lib.hid hTP
  have HHD := Lib.hid hHD
  have wl : IntKind.u64.wrap last = last := u64_wraps _ r0 (by omega)
  have wn : IntKind.u64.wrap (n : Int) = (n : Int) := u64_wraps _ (by omega) (by omega)
  have n8 : n ≤ 8 := by omega
  clear hr hm hmr hn t1 t2 t3 hW0 hH hb1 hg0 hTA hP1 hP2 hta sz0 sz1 sz2 hTP htp szp hHD r2 r3
  go_enter Try.func30, Try.ntmps30
  go_wp2_with fail
  rw [← HWE.out, ← HHE.out]
  apply region_grew [Is _, Is _, Is _, Is _, Is _, Is _, Is _, Is (.string TP), Is _, Is _, Is _, Is _, Is _] [([(1, none)], none), ([(5, some 0)], none), ([(6, some 1)], none), ([(1, none)], none), ([(8, some 3)], none), ([(9, some 4)], none), ([(10, some 5)], none), ([(7, some 2), (11, some 6)], none), ([(1, none)], none), ([(13, some 8)], none), ([(14, some 9)], none), ([(15, some 10)], none), ([(16, some 11)], none)] [(5, 0), (6, 1), (7, 2), (8, 3), (9, 4), (10, 5), (11, 6), (12, 7), (13, 8), (14, 9), (15, 10), (16, 11), (17, 12)] rfl (by kernel_rfl) (by kernel_rfl) (show Stable Grew _ from ⟨Is.stable _, Is.stable _, Is.stable _, Is.stable _, Is.stable _, Is.stable _, Is.stable _, Is.stable _, Is.stable _, Is.stable _, Is.stable _, Is.stable _, Is.stable _, trivial⟩)
  · show OpsHold _ _ _ _ _ _ _ _ _
    refine ⟨fun a_ wx hR hD K hK => ?_, ?_⟩
    · have hG : Grew W0 wx := (Grew.drew _).trans hR
      simp [Deps, Dep, at_, Is] at hD
      go_simp
      exact hK _ _ (Grew.refl _) rfl
    refine ⟨fun a_ wx hR hD K hK => ?_, ?_⟩
    · have hG : Grew W0 wx := (Grew.drew _).trans hR
      simp [Deps, Dep, at_, Is] at hD
      obtain ⟨e0, e1, e2⟩ := HB.out wx hG
      go_simp
      exact hK _ _ (Grew.refl _) rfl
    refine ⟨fun a_ wx hR hD K hK => ?_, ?_⟩
    · have hG : Grew W0 wx := (Grew.drew _).trans hR
      simp [Deps, Dep, at_, Is] at hD
      go_simp
      have hcn := HTX.out wx
      with_reducible refine hcn.mono ?_
      clear hcn
      rintro e wy ⟨v, rfl, hv, hg⟩
      exact hK _ _ hg hv
    refine ⟨fun a_ wx hR hD K hK => ?_, ?_⟩
    · have hG : Grew W0 wx := (Grew.drew _).trans hR
      simp [Deps, Dep, at_, Is] at hD
      go_simp
      exact hK _ _ (Grew.refl _) rfl
    refine ⟨fun a_ wx hR hD K hK => ?_, ?_⟩
    · have hG : Grew W0 wx := (Grew.drew _).trans hR
      simp [Deps, Dep, at_, Is] at hD
      obtain ⟨e0, e1, e2⟩ := HB.out wx hG
      go_simp
      exact hK _ _ (Grew.refl _) rfl
    refine ⟨fun a_ wx hR hD K hK => ?_, ?_⟩
    · have hG : Grew W0 wx := (Grew.drew _).trans hR
      simp [Deps, Dep, at_, Is] at hD
      go_simp
      exact hK _ _ (Grew.refl _) rfl
    refine ⟨fun a_ wx hR hD K hK => ?_, ?_⟩
    · have hG : Grew W0 wx := (Grew.drew _).trans hR
      simp [Deps, Dep, at_, Is] at hD
      go_simp
      have hcn := HP1.out wx
      with_reducible refine hcn.mono ?_
      clear hcn
      rintro e wy ⟨v, rfl, hv, hg⟩
      exact hK _ _ hg hv
    refine ⟨fun a_ wx hR hD K hK => ?_, ?_⟩
    · have hG : Grew W0 wx := (Grew.drew _).trans hR
      simp [Deps, Dep, at_, Is] at hD
      obtain ⟨hd0, hd1⟩ := hD
      have e_ := HAD1.out
      go_simp
      rw [← HTP.out]
      exact hK _ _ (Grew.refl _) rfl
    refine ⟨fun a_ wx hR hD K hK => ?_, ?_⟩
    · have hG : Grew W0 wx := (Grew.drew _).trans hR
      simp [Deps, Dep, at_, Is] at hD
      go_simp
      exact hK _ _ (Grew.refl _) rfl
    refine ⟨fun a_ wx hR hD K hK => ?_, ?_⟩
    · have hG : Grew W0 wx := (Grew.drew _).trans hR
      simp [Deps, Dep, at_, Is] at hD
      obtain ⟨e0, e1, e2⟩ := HB.out wx hG
      go_simp
      exact hK _ _ (Grew.refl _) rfl
    refine ⟨fun a_ wx hR hD K hK => ?_, ?_⟩
    · have hG : Grew W0 wx := (Grew.drew _).trans hR
      simp [Deps, Dep, at_, Is] at hD
      go_simp
      exact hK _ _ (Grew.refl _) rfl
    refine ⟨fun a_ wx hR hD K hK => ?_, ?_⟩
    · have hG : Grew W0 wx := (Grew.drew _).trans hR
      simp [Deps, Dep, at_, Is] at hD
      go_simp
      exact hK _ _ (Grew.refl _) rfl
    refine ⟨fun a_ wx hR hD K hK => ?_, ?_⟩
    · have hG : Grew W0 wx := (Grew.drew _).trans hR
      simp [Deps, Dep, at_, Is] at hD
      go_simp
      have hcn := HP2.out wx
      with_reducible refine hcn.mono ?_
      clear hcn
      rintro e wy ⟨v, rfl, hv, hg⟩
      exact hK _ _ hg hv
    trivial
  · show EndHold _ _ _ _ _ _ _
    refine end_all (xs := [_, _, _, _, _, _, _, _, _, _, _, _, _]) ⟨rfl, rfl, rfl, rfl, rfl, rfl, rfl, rfl, rfl, rfl, rfl, rfl, rfl, trivial⟩ ?_
    rintro w2 hR1 -
    refine ⟨?_⟩
    have hG_w2 : Grew W0 w2 := (Grew.drew _).trans hR1
    clear hR1
    simp only [Act.put, List.setIfInBounds_toArray, List.set_cons_succ, List.set_cons_zero, dropN, putEach]
    have ea := HAD2.out
    go_wp2_with fail
    clear ea wl wn
    obtain ⟨S0, hS0⟩ : ∃ S0, S0 = TP ++ P2 := ⟨_, rfl⟩
    rw [← hS0]
    have HSB := Lib.hid (hS0.trans HS0.out)
    clear hS0
    go_loopw [3, 4] (fun v3 iv wr => ∃ i : Nat, iv = .int .i64 (i : Int) ∧ i ≤ n ∧ v3 = .string (strOfNums (HD ++ (l.take i).flatMap bytesE)) ∧ Grew W0 wr) (fun _ iv _ => n - (intOf iv).toNat)
    case atStart => exact ⟨0, rfl, Nat.zero_le _, by rw [HSB.out], hG_w2⟩
    case round =>
      obtain ⟨i, rfl, hi, rfl, hgr⟩ := hrel
      obtain ⟨LL, hLL⟩ : ∃ LL, LL = HD ++ (l.take i).flatMap bytesE := ⟨_, rfl⟩
      rw [← hLL]
      obtain ⟨S, hS⟩ : ∃ S, S = strOfNums LL := ⟨_, rfl⟩
      rw [← hS]
      obtain ⟨c0, c1, c2⟩ := HB.out wr hgr
      by_cases hlt : i < n
      · have d1 : decide ((i : Int) < (n : Int)) = true := decide_eq_true (by omega)
        have d2 : decide (i < n) = true := decide_eq_true hlt
        have i1 : (i : Int) < (n : Int) := by omega
        obtain ⟨ad1, rfl, a0, a1, a2, a3, a4⟩ := at_T36 (HR.out wr (Grew.trans HG0.out hgr)) (i : Int) (by omega) (by rw [← HN.out]; exact i1)
        have hat := rd_atE (l := l) (i := i) (by rw [← HN.out]; exact hlt)
        obtain ⟨e, he⟩ : ∃ e, e = rd_T36 l (i : Int) := ⟨_, rfl⟩
        rw [← he] at hat
        rw [Int.toNat_natCast, ← he] at a0 a1 a2 a3 a4
        have hge := HGD.out e (List.mem_of_getElem? hat)
        have hbl := bytesE_len hge
        have htk : l.take (i + 1) = l.take i ++ [e] := by rw [List.take_add_one, hat]; rfl
        have hnx : HD ++ (l.take (i + 1)).flatMap bytesE = LL ++ bytesE e := by rw [htk, hLL]; simp
        have hlen : LL.length ≤ 10000 := by
          have h2 := flatE_len (l := l.take i) (fun q hq => HGD.out q (List.mem_of_mem_take hq))
          rw [List.length_take] at h2
          rw [hLL, List.length_append]
          omega
        obtain ⟨f0, f1, f2, f3, f4⟩ := e
        simp only at a0 a1 a2 a3 a4
        have HRB := Lib.hid (fun wx => rbytes_c f0 f1 f2 f3 f4 hge wx)
        obtain ⟨P3, hP3⟩ : ∃ P3, P3 = strOfNums (bytesE ⟨f0, f1, f2, f3, f4⟩) := ⟨_, rfl⟩
        rw [← hP3] at HRB
        have hadd : ¬ 9223372036854775807 < S.size + P3.size := by rw [hS, hP3, str_size, str_size]; omega
        have HNS := Lib.hid (show S ++ P3 = strOfNums (HD ++ (l.take (i + 1)).flatMap bytesE) from by rw [hnx, hS, hP3, str_append])
        have wi : IntKind.i64.wrap ((i : Int) + 1) = (i : Int) + 1 := IntWalk.i64_in _ (by omega)
        have HGR := Lib.hid hgr
        clear hat he hge hbl htk hnx hlen hP3 hLL hS hgr
        go_wp2_with fail
        clear a0 a1 a2 a3 a4 c0 c1 c2
        refine (HRB.out wr).mono ?_
        rintro e w5 ⟨_, rfl, rfl, hg5⟩
        go_wp2_with fail
        go_roundw
        case rel => exact ⟨i + 1, by go_num, by omega, by rw [← HNS.out], Grew.trans HGR.out hg5⟩
        case measure => simp [intOf]; omega
      · obtain rfl : i = n := by omega
        have d1 : decide ((i : Int) < (i : Int)) = false := decide_eq_false (by omega)
        have d2 : decide (i < i) = false := decide_eq_false (by omega)
        have htl : l.take i = l := List.take_of_length_le (by rw [← HN.out]; exact Nat.le_refl _)
        have HSS := Lib.hid (show S = strOfNums (encP a last l) from by rw [hS, hLL, htl, HHD.out]; unfold encP; rw [← HN.out])
        clear hLL hS htl
        go_wp2_with fail
        go_ret
        exact ⟨_, rfl, by rw [← HSS.out]; rfl, Grew.trans HG0.out hgr⟩
end Go.Proofs.Ytmifoihfpjomaaa.F
