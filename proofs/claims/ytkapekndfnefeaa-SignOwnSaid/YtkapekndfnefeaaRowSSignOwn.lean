/- The row of the law SignOwn: for every input the law's call returns true, whatever memory; no condition. Out of the contract SignOwn_c. -/
import Derived.Test.YtkapekndfnefeaaSD
import Derived.Test.YtkapekndfnefeaaRows
import Derived.WalkKit
import Derived.ProofKit
import Derived.OpenShut
import Derived.ShutString
import Derived.ChangeOld
import Derived.Below
import Derived.SizedLaws
import Derived.Test.YtkapekndfnefeaaWSized
import Derived.Lib.SmallJoins

-- SignOwn
namespace Go.Proofs.Ytkapekndfnefeaa.F
open Go Go.RowKit Go.Proofs.YtkapekndfnefeaaW.PrintWords Go.Proofs.YtkapekndfnefeaaW.PrintLast Go.Proofs.YtkapekndfnefeaaW.PrintMore Go.Proofs.YtkapekndfnefeaaM Go.Proofs.YtkapekndfnefeaaR
attribute [local go_sem] max2_int min2_int max_two min_two
set_option linter.unusedSimpArgs false
set_option linter.unusedVariables false
set_option maxRecDepth 100000
/-- an index of these, wherever it lies -/
def IdxA (L : List S25) : World → Value → Prop := fun w v => ∃ B p lv b base D, v = .pointer (some ⟨p, 0, none⟩) ∧ Idx B p L L lv b base D w
theorem IdxA.stable (L : List S25) : ∀ w w' v, Grew w w' → IdxA L w v → IdxA L w' v := fun _ _ _ hg ⟨B, p, lv, b, base, D, h1, h2⟩ => ⟨B, p, lv, b, base, D, h1, h2.grew hg⟩
theorem idxA_of {w : World} {L : List S25} {f : FuncId} {ar : Array Value} (h : Calls Try.prog f ar w (Tells w (IdxV w.heap.size L))) : Calls Try.prog f ar w (Tells w (IdxA L)) :=
  h.mono fun e w' ⟨v, he, ⟨p, lv, b, base, D, h1, h2⟩, hg⟩ => ⟨v, he, ⟨_, p, lv, b, base, D, h1, h2⟩, hg⟩
theorem sgs_one (l : List S25) : ∀ u ∈ sgs l, u.oneCell' = true := by
  intro u hu
  unfold sgs at hu
  obtain ⟨x, -, hx⟩ := List.mem_flatMap.1 hu
  simp at hx
  rcases hx with rfl | rfl <;> rfl
theorem C_sgs {w : World} {A : Option Addr} {n : Nat} {l : List S25} (h : Kd.C k25 w A n l) (hn : l.length = n) (hp : 0 < n) : ∃ ad, A = some ad ∧ ∀ j u, (sgs l)[j]? = some u → w.cell? (ad.add j) = some u := by
  obtain ⟨ad, hA, -, -⟩ := at_T25 h (0 : Int) (by omega) (by omega)
  refine ⟨ad, hA, fun j u hu => ?_⟩
  have hj : j < n * 2 := by
    rcases Nat.lt_or_ge j (sgs l).length with h2 | h2
    · rw [sgs_length] at h2; omega
    · rw [List.getElem?_eq_none h2] at hu; cases hu
  obtain ⟨ad2, hA2, k0, k1⟩ := at_T25 h ((j / 2 : Nat) : Int) (by omega) (by omega)
  rw [hA] at hA2
  obtain rfl := Option.some.inj hA2
  obtain ⟨h1, h2⟩ := sgs_get l (j / 2) (by omega)
  have hr : rd_T25 l ((j / 2 : Nat) : Int) = l.getD (j / 2) z25 := by unfold rd_T25; rw [Int.toNat_natCast]
  rw [Int.toNat_natCast, hr] at k0 k1
  rcases Nat.mod_two_eq_zero_or_one j with hm | hm
  · have e : j = j / 2 * 2 := by omega
    rw [e] at hu ⊢
    rw [h1] at hu
    obtain rfl := Option.some.inj hu
    exact k0
  · have e : j = j / 2 * 2 + 1 := by omega
    rw [e] at hu ⊢
    rw [h2] at hu
    obtain rfl := Option.some.inj hu
    rw [← add_field _ _ 1 (by omega)] at k1
    exact k1
theorem own_blk {w : World} {base : Nat} {e : TypeId} {size n cap : Nat} {A : Option Addr} {xs : List Value} (h : w.ownsRow base e size (.slice A n cap) n xs) (hp : 0 < n) : ∃ g cur, A = some ⟨g, 0, none⟩ ∧ Blk w g e cur ∧ n * size ≤ cur.length ∧ base ≤ g := by
  obtain ⟨hl, ⟨_, h0⟩ | ⟨g, cap, cur, hv, hb, hh, hnc, _, hcs, htake⟩⟩ := h
  · omega
  · injection hv with h1 h2 h3
    refine ⟨g, cur.toList, h1, by unfold Blk; rw [Array.toArray_toList]; exact hh, ?_, hb⟩
    have : (xs).length ≤ cur.toList.length := by rw [← htake, List.length_take]; exact Nat.min_le_right _ _
    rw [hl] at this
    exact this
theorem nil_C (w : World) : Kd.C k25 w none 0 [] := by
  obtain ⟨A, c, h1, h2, h3⟩ := sg_C (w := w) (base := 0) (v := .slice none 0 0) (n := 0) (l := []) (World.ownsRow_nil _ _ _ _) rfl
  obtain ⟨rfl, -, -⟩ := (Value.slice.injEq _ _ _ _ _ _).mp h1
  exact h3
set_option maxHeartbeats 4000000 in
theorem SignOwn_c (w : World) (A : Option Addr) (c : Nat) (l : List S25) (s0 : Int) (s1 : ByteArray) (hC : Kd.C k25 w A l.length l) (hc : l.length ≤ c) (ok : ∀ x ∈ l, (Lit.int .u32 x.f0).wf = true ∧ x.f1.size ≤ 140737488351232) (ok0 : (Lit.int .u32 s0).wf = true) (ok1 : s1.size ≤ 140737488351232) :
    Calls Try.prog 7 #[.slice A l.length c, .agg #[.int .u32 s0, .string s1]] w (Tells w (Is (.bool true))) := by
  obtain ⟨b, hb, hfew⟩ := few_c l
  obtain ⟨n, hn⟩ : ∃ n, n = l.length := ⟨_, rfl⟩
  obtain ⟨ss, hss⟩ : ∃ ss, ss = s1.size := ⟨_, rfl⟩
  have HSS := Lib.hid hss.symm
  have HFEW := Lib.hid (fun w' (h : Grew w w') => hfew w' A c (Kd.C_below hC h) hc)
  rw [← hn] at HFEW hc hC ⊢
  have hss' := hss.symm
  obtain ⟨W0, hW0⟩ : ∃ W0, W0 = w.alloc (.cells #[.int .u32 s0, .string s1] 25) := ⟨_, rfl⟩
  obtain ⟨g, hg⟩ : ∃ g, g = w.heap.size := ⟨_, rfl⟩
  have hbl : Blk W0 g 25 [.int .u32 s0, .string s1] := by rw [hW0, hg]; exact Blk.new w _ _
  have hgw : Grew w W0 := by rw [hW0]; exact Grew.alloc _ _
  have HBL := Lib.hid hbl
  have CB := Lib.hid (show ∀ wx, Grew W0 wx → wx.cell? ⟨g, 0, none⟩ = some (.int .u32 s0) ∧ wx.cell? ⟨g, 1, none⟩ = some (.string s1) from fun wx h => ⟨by rw [(hbl.grew h).at_]; rfl, by rw [(hbl.grew h).at_]; rfl⟩)
  have HGW := Lib.hid hgw
  have HWE := Lib.hid hW0
  have HGE := Lib.hid hg
  clear hbl hgw hW0 hg
  by_cases hgo : b = true ∧ ss ≤ 100
  · obtain ⟨rfl, hs100⟩ := hgo
    obtain ⟨hl, hsz⟩ := hb rfl
    have HNEW := Lib.hid (fun w' (A' : Option Addr) (c' : Nat) (h : Kd.C k25 w' A' n l) (hc' : n ≤ c') => idxA_of (inew_c w' A' n c' l h hn.symm hc' (fun x hx => (ok x hx).1)))
    have HNEWB := Lib.hid (fun w' (A' : Option Addr) (c' : Nat) (h : Kd.C k25 w' A' n l) (hc' : n ≤ c') => inew_c w' A' n c' l h hn.symm hc' (fun x hx => (ok x hx).1))
    obtain ⟨kx, fx, hkf⟩ : ∃ kx fx, findP (l.take 1024) s1 (posns (l.take 1024) s0) = (kx, fx) := ⟨_, _, rfl⟩
    have HFIND := Lib.hid (show ∀ (w : World) (B p : Nat) (lv : Value) (b base : Nat) (D : DataW Unit), Idx B p (l.take 1024) (l.take 1024) lv b base D w → Calls Try.prog 18 #[.pointer (some ⟨p, 0, none⟩), .agg #[.int .u32 s0, .string s1]] w (Tells w (Is (.tuple #[.int .i64 kx, .bool fx]))) from fun w B p lv b base D h => by
      have := ifind_c w B p _ lv b base D h ⟨s0, s1⟩ ok0 (by rw [List.length_take]; omega)
      rw [show findP (l.take 1024) (S25.mk s0 s1).f1 (posns (l.take 1024) (S25.mk s0 s1).f0) = _ from hkf] at this
      exact this)
    have HC := Lib.hid hC
    have HN := Lib.hid hn
    have HSG := Lib.hid (fun w' (h : Grew w w') (hp : 0 < n) => C_sgs (Kd.C_below hC h) hn.symm hp)
    have d1 : decide (100 < ss) = false := decide_eq_false (by omega)
    have d1' : decide (100 < (ss : Int)) = false := decide_eq_false (by omega)
    have hnB : n ≤ 1100 := by omega
    clear hn hss hfew hb ok hl hsz hC ok0 ok1 hkf
    go_enter Try.func7, Try.ntmps7
    go_wp2_with fail
    rw [← HWE.out, ← HGE.out]
    refine (HFEW.out _ HGW.out).mono ?_
    rintro e w1 ⟨_, rfl, rfl, hg1⟩
    have c1 := (CB.out w1 hg1).2
    obtain ⟨v2, w2, hrun, hown, hgr2, -⟩ := app_many (P := Try.prog) w1 w1.heap.size 34 25 34 (.agg #[.int .u32 0, .string ⟨#[]⟩]) 2 24 Try.underlying34 infoSg rfl (by decide) (by decide) (.slice none 0 0) 0 [] A n c (sgs l) (by rw [sgs_length, ← HN.out]) (sgs_one l) (HSG.out w1 (HGW.out.trans hg1)) (World.ownsRow_nil _ _ _ _) (Nat.le_refl _) (by omega)
    rw [Nat.zero_add, List.nil_append] at hown
    obtain ⟨A2, c2, rfl, hc2, hC2⟩ := sg_C hown HN.out.symm
    have hg2 : Grew w1 w2 := (Upd.of_grown hgr2).grew (fun i _ h => by simp [Value.ownBlock] at h)
    have HRUN := Lib.hid hrun
    have HOWN := Lib.hid hown
    have HC2 := Lib.hid hC2
    clear hrun hown hC2 hgr2
    go_wp2_with (at_builtin; refine wpList_app rfl _ _ _ rfl rfl rfl HRUN.out ?_)
    refine (HNEWB.out w2 A2 c2 HC2.out hc2).mono ?_
    rintro e w3 ⟨_, rfl, ⟨p, lv, bb, base, D, rfl, hI⟩, hg3⟩
    have HI := Lib.hid hI
    have hm0 : 0 < n → ∃ gm cur, A2 = some ⟨gm, 0, none⟩ ∧ Blk w3 gm 25 cur ∧ n * 2 ≤ cur.length ∧ gm < w2.heap.size ∧ w1.heap.size ≤ gm := fun h => by
      obtain ⟨gm, cur, h1, h2, h3, h4⟩ := own_blk HOWN.out h
      exact ⟨gm, cur, h1, h2.grew hg3, h3, h2.lt, h4⟩
    have HM0 := Lib.hid hm0
    have HU3 := Lib.hid (show Upd (fun k => w1.heap.size ≤ k) w1 w3 from Upd.of_grew (hg2.trans hg3))
    have HW12 := Lib.hid hg2.size
    clear hI hm0 hg2 hg3
    go_wp2_with fail
    go_loopw [7] (fun iv wr => ∃ m : Nat, m ≤ n ∧ iv = .int .i64 (m : Int) ∧ (0 < n → ∃ gm cur, A2 = some ⟨gm, 0, none⟩ ∧ Blk wr gm 25 cur ∧ n * 2 ≤ cur.length ∧ gm < w2.heap.size ∧ w1.heap.size ≤ gm) ∧ Idx w2.heap.size p (l.take 1024) (l.take 1024) lv bb base D wr ∧ Upd (fun k => w1.heap.size ≤ k) w1 wr) (fun iv _ => n - (intOf iv).toNat)
    case atStart => exact ⟨0, Nat.zero_le _, rfl, HM0.out, HI.out, HU3.out⟩
    case round =>
      obtain ⟨m, hm, rfl, hbk, hIr, hur⟩ := hrel
      by_cases hlt : m < n
      · have m1 : decide ((m : Int) < (n : Int)) = true := decide_eq_true (by omega)
        have m2 : decide (m < n) = true := decide_eq_true (by omega)
        have hw : IntKind.i64.wrap ((m : Int) + 1) = (m : Int) + 1 := by rw [IntWalk.i64_in _ (by omega)]
        obtain ⟨gm, cur, hA2, hbm, hcl, hgm, hgm1⟩ := hbk (by omega)
        subst hA2
        have q0 := hbm.at_ (m * 2)
        have q1 := hbm.at_ (m * 2 + 1)
        have f0 := hbm.fz (m * 2)
        have f1 := hbm.fz (m * 2 + 1)
        obtain ⟨x0, hx0⟩ : ∃ x0, cur[m * 2]? = some x0 := ⟨_, List.getElem?_eq_getElem (by omega)⟩
        obtain ⟨x1, hx1⟩ : ∃ x1, cur[m * 2 + 1]? = some x1 := ⟨_, List.getElem?_eq_getElem (by omega)⟩
        rw [hx0] at q0
        rw [hx1] at q1
        clear hx0 hx1
        have HBM := Lib.hid hbm
        have HIR := Lib.hid hIr
        have HUR := Lib.hid hur
        have HCL := Lib.hid hcl
        have HGM := Lib.hid hgm
        have HGM1 := Lib.hid hgm1
        clear hbm hIr hur hcl hgm hgm1 hbk
        go_wp2_with fail
        have hs : Upd (fun k => k = gm) wr ((wr.setCell ⟨gm, m * 2, none⟩ (.int .u32 7)).setCell ⟨gm, m * 2 + 1, none⟩ (.string ⟨#[115, 112, 111, 105, 108, 116]⟩)) :=
          Upd.set (S := fun k => k = gm) (p := ⟨gm, m * 2 + 1, none⟩) (Upd.set (S := fun k => k = gm) (p := ⟨gm, m * 2, none⟩) (Upd.refl _ _) (.inl rfl) _) (.inl rfl) _
        have hgm := HGM.out
        have hgm1 := HGM1.out
        go_roundw
        case rel => exact ⟨m + 1, hlt, by go_num, fun _ => ⟨gm, _, rfl, (HBM.out.set (m * 2) (.int .u32 7)).set (m * 2 + 1) (.string ⟨#[115, 112, 111, 105, 108, 116]⟩), by simpa using HCL.out, hgm, hgm1⟩, HIR.out.upd hs (fun k hk e => by omega), HUR.out.trans (hs.mono fun k _ e => by rw [e]; exact hgm1)⟩
        case measure => simp [intOf]; omega
      · obtain rfl : m = n := by omega
        have m1 : decide ((m : Int) < (m : Int)) = false := decide_eq_false (by omega)
        have m2 : decide (m < m) = false := decide_eq_false (by omega)
        have hg1r : Grew W0 wr := hg1.trans (hur.grew (fun i hi h => by omega))
        have HIR := Lib.hid hIr
        have HGR := Lib.hid hg1r
        have c0 := (CB.out wr hg1r).1
        have c1 := (CB.out wr hg1r).2
        clear hbk hIr hur hg1r
        go_wp2_with fail
        refine (HFIND.out wr _ _ _ _ _ _ HIR.out).mono ?_
        rintro e w5 ⟨_, rfl, rfl, hg5⟩
        have hg5r := HGR.out.trans hg5
        have CB5 := Lib.hid (fun wx (h : Grew w5 wx) => CB.out wx (hg5r.trans h))
        have HC5 := Lib.hid (fun wx (h : Grew w5 wx) => HNEW.out wx A c (Kd.C_below HC.out ((HGW.out.trans hg5r).trans h)) hc)
        clear c0 c1
        go_wp2_with fail
        apply region_grew [Is _, IdxA (l.take 1024), Is _, Is _, Is _, Is _, Is _, Is _] [([(0, none)], none), ([(47, some 0)], none), ([(3, none)], none), ([(48, some 1), (49, some 2)], none), ([(50, some 3)], none), ([(46, some 4)], none), ([(46, some 4)], none), ([(51, some 5)], none)] [(48, 1), (10, 7), (46, 4), (47, 0), (49, 2), (50, 3), (51, 5), (52, 6)] rfl (by kernel_rfl) (by kernel_rfl) (show Stable Grew _ from ⟨Is.stable _, IdxA.stable _, Is.stable _, Is.stable _, Is.stable _, Is.stable _, Is.stable _, Is.stable _, trivial⟩)
        · show OpsHold _ _ _ _ _ _ _ _ _
          refine ⟨fun a_ wx hR hD K hK => ?_, ?_⟩
          · have hG : Grew w5 wx := (Grew.drew _).trans hR
            simp [Deps, Dep, at_, Is] at hD
            go_simp
            exact hK _ _ (Grew.refl _) rfl
          refine ⟨fun a_ wx hR hD K hK => ?_, ?_⟩
          · have hG : Grew w5 wx := (Grew.drew _).trans hR
            simp [Deps, Dep, at_, Is] at hD
            go_simp
            have hcn := HC5.out wx hG
            with_reducible refine hcn.mono ?_
            clear hcn
            rintro e wy ⟨v, rfl, hv, hg⟩
            exact hK _ _ hg hv
          refine ⟨fun a_ wx hR hD K hK => ?_, ?_⟩
          · have hG : Grew w5 wx := (Grew.drew _).trans hR
            simp [Deps, Dep, at_, Is] at hD
            have e0 := (CB5.out wx hG).1
            have e1 := (CB5.out wx hG).2
            go_simp
            exact hK _ _ (Grew.refl _) rfl
          refine ⟨fun a_ wx hR hD K hK => ?_, ?_⟩
          · have hG : Grew w5 wx := (Grew.drew _).trans hR
            simp [Deps, Dep, at_, Is] at hD
            obtain ⟨hd0, hd1⟩ := hD
            obtain ⟨B_, p_, lv_, b_, base_, D_, hv0, hI_⟩ := hd0
            go_simp
            have hcn := HFIND.out wx _ _ _ _ _ _ hI_
            with_reducible refine hcn.mono ?_
            clear hcn
            rintro e wy ⟨v, rfl, hv, hg⟩
            exact hK _ _ hg hv
          refine ⟨fun a_ wx hR hD K hK => ?_, ?_⟩
          · have hG : Grew w5 wx := (Grew.drew _).trans hR
            simp [Deps, Dep, at_, Is] at hD
            go_simp
            exact hK _ _ (Grew.refl _) rfl
          refine ⟨fun a_ wx hR hD K hK => ?_, ?_⟩
          · have hG : Grew w5 wx := (Grew.drew _).trans hR
            simp [Deps, Dep, at_, Is] at hD
            go_simp
            exact hK _ _ (Grew.refl _) rfl
          refine ⟨fun a_ wx hR hD K hK => ?_, ?_⟩
          · have hG : Grew w5 wx := (Grew.drew _).trans hR
            simp [Deps, Dep, at_, Is] at hD
            go_simp
            exact hK _ _ (Grew.refl _) rfl
          refine ⟨fun a_ wx hR hD K hK => ?_, ?_⟩
          · have hG : Grew w5 wx := (Grew.drew _).trans hR
            simp [Deps, Dep, at_, Is] at hD
            go_simp
            exact hK _ _ (Grew.refl _) rfl
          trivial
        · show EndHold _ _ _ _ _ _ _
          intro v48
          refine end_all (xs := [_, _, _, _, _, _, _]) ⟨rfl, rfl, rfl, rfl, rfl, rfl, rfl, trivial⟩ ?_
          rintro w6 hR1 ⟨-, hIdx⟩
          refine ⟨?_⟩
          have hG_w6 : Grew w5 w6 := (Grew.drew _).trans hR1
          clear hR1
          simp only [Act.put, List.setIfInBounds_toArray, List.set_cons_succ, List.set_cons_zero, dropN, putEach]
          have c0 := (CB5.out w6 hG_w6).1
          have c1 := (CB5.out w6 hG_w6).2
          have HG6 := Lib.hid hG_w6
          clear hIdx hG_w6
          go_wp2_with fail
          refine (nfind_c w6 _ _).mono ?_
          rintro e w7 ⟨_, rfl, rfl, hg7⟩
          have c0 := (CB5.out w7 (HG6.out.trans hg7)).1
          clear c1
          go_wp2_with fail
          refine (nweak_c w7 _).mono ?_
          rintro e w8 ⟨_, rfl, rfl, hg8⟩
          go_wp2_with fail
          refine (nlen_c w8).mono ?_
          rintro e w9 ⟨_, rfl, rfl, hg9⟩
          go_wp2_with fail
          refine (inew_c w9 none 0 0 [] (nil_C w9) rfl (Nat.le_refl _) (fun x h => by cases h)).mono ?_
          rintro e wa ⟨_, rfl, ⟨p2, lv2, bb2, base2, D2, rfl, hI2⟩, hga⟩
          have HL := Lib.hid (ilen_c wa _ p2 _ _ lv2 bb2 base2 D2 hI2)
          clear hI2
          go_wp2_with fail
          refine HL.out.mono ?_
          rintro e wb ⟨_, rfl, rfl, hgb⟩
          go_wp2_with fail
          refine (lives_c _).mono ?_
          rintro e wc ⟨_, rfl, rfl, hgc⟩
          go_wp2_with fail
          go_ret
          exact ⟨_, rfl, rfl, (HGW.out.trans (hg5r.trans HG6.out)).trans (hg7.trans (hg8.trans (hg9.trans (hga.trans (hgb.trans hgc)))))⟩
  · have hgo2 : b = false ∨ (b = true ∧ decide (100 < ss) = true ∧ decide (100 < (ss : Int)) = true ∧ 100 < ss) := by
      cases b
      · exact .inl rfl
      · simp only [true_and] at hgo
        exact .inr ⟨rfl, decide_eq_true (by omega), decide_eq_true (by omega), by omega⟩
    clear hn hss hfew hb ok hC ok0 ok1 hgo
    rcases hgo2 with rfl | ⟨rfl, x1, x2, x3⟩
    all_goals
      go_enter Try.func7, Try.ntmps7
      go_wp2_with fail
      rw [← HWE.out, ← HGE.out]
      refine (HFEW.out _ HGW.out).mono ?_
      rintro e w1 ⟨_, rfl, rfl, hg1⟩
      have c1 := (CB.out w1 hg1).2
      go_wp2_with fail
      refine (lives_c _).mono ?_
      rintro e w2 ⟨_, rfl, rfl, hg2⟩
      go_wp2_with fail
      go_ret
      exact ⟨_, rfl, rfl, HGW.out.trans (hg1.trans hg2)⟩
end Go.Proofs.Ytkapekndfnefeaa.F

-- RowSignOwn
namespace Go.Proofs.Ytkapekndfnefeaa.signOwn
open Go.ChangeShapes Go.WideShapes Go.ChangeAt Go.RowKit
open Go.ChangeMaps (open_string shut_string)
set_option linter.unusedVariables false
set_option linter.unusedSimpArgs false
theorem own : ownKnob Try.prog.godebug = none := by kernel_rfl
theorem laidOut : laidOutB Try.prog = true := by kernel_rfl
set_option maxRecDepth 100000 in
theorem lifted (os : Os) (started : os.Started) (H : Type) (enc : TypeId × Value → H) :
    ReturnsInHanded {} Try.checked os 7 .any (Rows.signOwnSpec.pre6 enc Try.prog Try.f7 Rows.signOwnRow.domain false) (Rows.signOwnSpec.post enc Try.prog Try.f7 false true false false) := by
  refine returnsInHanded_of_change_sized (C := Try.checked) own started (by kernel_rfl) Try.func7
    (ChangeSpec.witness6 (enc := enc) (C := Try.checked) false ⟨#[], #[.slice none 0 0, .agg #[.int .u32 0, .string ByteArray.empty]], []⟩ 8 (by kernel_rfl) (by kernel_rfl) (by kernel_rfl) (by kernel_rfl)) ?_
  intro W base args ds gs before hval0 hW hcnd hsz0 _
  have hsz : (DataW.weightsEach Try.prog (Try.f7.params.toList ++ Rows.signOwnSpec.plain.varTypes Try.prog) (ds ++ gs)).all (· ≤ reachBytes) = true := hsz0
  have hval : ∀ (j : Nat) t v, Try.f7.params[j]? = some t → args[j]? = some v → Value.okWide Try.prog W .any base t v := hval0
  have hW' := hW
  obtain ⟨p, q, hA0, hV, rfl, hfz, hnd⟩ := hW
  have hA : DataW.TrodAll enc Try.prog W 0 (fun _ => true) true Try.f7.params.toList args.toList ds p := hA0
  rw [Try.params7] at hA hval hsz
  obtain ⟨v0, vs0, d0, ds0, p0, q0, hargs, rfl, rfl, h0, r0⟩ := trodAll_cons hA
  obtain ⟨v1, vs1, d1, ds1, p1, q1, rfl, rfl, rfl, h1, r1⟩ := trodAll_cons r0
  obtain ⟨rfl, rfl, rfl⟩ := trodAll_nil r1
  obtain rfl : args = #[v0, v1] := by cases args; simp_all
  obtain ⟨rfl, rfl⟩ := trodVars_none hV
  obtain ⟨a0, len0, cap0, rfl⟩ := okWide_slice Try.underlying34 (hval 0 34 v0 rfl rfl)
  have k0 := h0
  have lt0 : ∀ x ∈ p0, x.block < W.heap.size := by obtain ⟨m, hm⟩ := k0; exact DataW.trod_lt m _ _ _ hm
  obtain ⟨x0, ⟨A0, cp0, e0, hc0, hC0⟩, ok0⟩ := Go.Proofs.YtkapekndfnefeaaO.opensW_arg (d := (Go.Proofs.YtkapekndfnefeaaW.PrintWords.Kd.slice 25 Go.Proofs.Ytkapekndfnefeaa.F.k25)) (Go.Proofs.YtkapekndfnefeaaO.opensW_slice Try.underlying34 (show Go.Proofs.YtkapekndfnefeaaO.OpensW _ _ Go.Proofs.Ytkapekndfnefeaa.F.k25 _ from Go.Proofs.YtkapekndfnefeaaO.opensW_iso (fun x : Go.Proofs.Ytkapekndfnefeaa.F.S25 => (x.f0, x.f1)) (fun p => ⟨p.1, p.2⟩) (fun _ => rfl) (Go.Proofs.YtkapekndfnefeaaO.opensW_struct Try.underlying25 (Go.Proofs.YtkapekndfnefeaaO.opensF_cons (Go.Proofs.YtkapekndfnefeaaO.Opens.w (Go.Proofs.YtkapekndfnefeaaO.opens_int Try.underlying23)) (by kernel_rfl) (Go.Proofs.YtkapekndfnefeaaO.opensF_one (Go.Proofs.YtkapekndfnefeaaO.opensW_string Try.underlying9) (by kernel_rfl))) (by kernel_rfl))) (by kernel_rfl)) hsz (j := 0) (t := 34) rfl rfl h0
  obtain ⟨rfl, rfl, rfl⟩ := Value.slice.inj (List.cons.inj e0).1
  have k1 := h1
  have lt1 : ∀ x ∈ p1, x.block < W.heap.size := by obtain ⟨m, hm⟩ := k1; exact DataW.trod_lt m _ _ _ hm
  obtain ⟨cs1, rfl, hcs1⟩ := Go.Proofs.YtkapekndfnefeaaO.okWide_struct Try.underlying25 (hval 1 25 v1 rfl rfl)
  obtain ⟨⟨x1_0, x1_1⟩, ⟨c1_0, c1_1, e1_0, K1_0, K1_1⟩, ok1_0, ok1_1⟩ := Go.Proofs.YtkapekndfnefeaaO.opensW_arg (d := (Go.Proofs.YtkapekndfnefeaaW.PrintWords.Kd.pair (Go.Proofs.YtkapekndfnefeaaW.PrintWords.Kd.int .u32) Go.Proofs.YtkapekndfnefeaaW.PrintWords.Kd.string)) (Go.Proofs.YtkapekndfnefeaaO.opensW_struct Try.underlying25 (Go.Proofs.YtkapekndfnefeaaO.opensF_cons (Go.Proofs.YtkapekndfnefeaaO.Opens.w (Go.Proofs.YtkapekndfnefeaaO.opens_int Try.underlying23)) (by kernel_rfl) (Go.Proofs.YtkapekndfnefeaaO.opensF_one (Go.Proofs.YtkapekndfnefeaaO.opensW_string Try.underlying9) (by kernel_rfl))) (by kernel_rfl)) hsz (j := 1) (t := 25) rfl rfl h1
  obtain rfl := K1_0
  obtain rfl := K1_1
  obtain rfl : cs1 = #[.int .u32 x1_0, .string x1_1] := Array.ext' (by first | exact e1_0 | simpa using e1_0)
  clear hA0 hval0 hsz0 hsz
  refine (Go.Proofs.YtkapekndfnefeaaR.is_tells (Go.Proofs.Ytkapekndfnefeaa.F.SignOwn_c W a0 cap0 x0 x1_0 x1_1 hC0 hc0 ok0 ok1_0 ok1_1)).mono fun e W' ⟨he, bel⟩ => ?_
  subst he
  exact ⟨_, rfl, _, _, _, [], _, [], hW', trodAll_mk1 (shut_bool Try.underlying4 _), (trodAll_cons_mk (Below.trod laidOut (by kernel_rfl) (of_decide_eq_true (by kernel_rfl)) k0 bel lt0) (trodAll_cons_mk (Below.trod laidOut (by kernel_rfl) (of_decide_eq_true (by kernel_rfl)) k1 bel lt1) trodAll_mk0)), rfl, bel.frame _, fun h => by cases h⟩
theorem over : Rows.signOwnRow.holds Try.pinned (OpenSpec.ofChange Rows.signOwnSpec) :=
  OpenClaim.holds_of_wide 7 Try.f7 rfl rfl rfl rfl rfl rfl rfl ⟨rfl, rfl, rfl, rfl, rfl⟩ rfl rfl rfl rfl rfl (by kernel_rfl) Try.func7 (by kernel_rfl)
    (of_decide_eq_true (by kernel_rfl)) (by unfold Func.isWrapper; first | (rw [if_pos (by decide +kernel)]; kernel_rfl) | (rw [if_neg (by decide +kernel)]; exact ⟨rfl, rfl⟩))
    (fun os started H enc _ => lifted os started H enc)
end Go.Proofs.Ytkapekndfnefeaa.signOwn
namespace Go.Proofs.Ytkapekndfnefeaa
/-- The row, under a short name, for the claim. -/
theorem signOwn_holds : Rows.SignOwnSaid := signOwn.over
#print axioms signOwn_holds
end Go.Proofs.Ytkapekndfnefeaa
