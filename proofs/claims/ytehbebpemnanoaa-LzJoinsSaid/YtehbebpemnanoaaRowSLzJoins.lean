/- The row of the law LzJoins: for every input the law's call returns true, whatever memory; no condition. Out of the contract LzJoins_c. -/
import Derived.Test.YtehbebpemnanoaaSC
import Derived.Test.YtehbebpemnanoaaRows
import Derived.WalkKit
import Derived.ProofKit
import Derived.OpenShut
import Derived.ShutString
import Derived.ChangeOld
import Derived.Below
import Derived.SizedLaws
import Derived.Test.YtehbebpemnanoaaWSized
import Derived.Lib.SmallJoins

-- LzJoins
namespace Go.Proofs.Ytehbebpemnanoaa.F
open Go Go.RowKit Go.Proofs.YtehbebpemnanoaaW.PrintWords Go.Proofs.YtehbebpemnanoaaW.PrintLast Go.Proofs.YtehbebpemnanoaaW.PrintMore Go.Proofs.YtehbebpemnanoaaM Go.Proofs.YtehbebpemnanoaaR
attribute [local go_sem] max2_int min2_int max_two min_two
set_option linter.unusedSimpArgs false
set_option linter.unusedVariables false
set_option maxRecDepth 100000
set_option maxHeartbeats 4000000 in
theorem LzJoins_c (w : World) (A : Option Addr) (c : Nat) (x : List S46) (hC : Kd.C k46 w A x.length x) (hc : x.length ≤ c) (ok : ∀ y ∈ x, (Lit.int .i64 y.f0).wf = true ∧ (Lit.int .i64 y.f1).wf = true ∧ y.f2.size ≤ 140737488351232) :
    Calls Try.prog 3 #[.slice A x.length c] w (Tells w (Is (.bool true))) := by
  clear ok
  obtain ⟨b, hb, hfew⟩ := few_c x
  have HFEW := Lib.hid (hfew w A c hC hc)
  have HC := Lib.hid hC
  by_cases hb1 : b = false
  · subst hb1
    clear hb hfew hC
    go_enter Try.func3, Try.ntmps3
    go_wp2_with fail
    refine HFEW.out.mono ?_
    rintro e w1 ⟨_, rfl, rfl, hg1⟩
    go_wp2_with fail
    refine (lives_c _).mono ?_
    rintro e w2 ⟨_, rfl, rfl, hg2⟩
    go_wp2_with fail
    go_ret
    exact ⟨_, rfl, rfl, hg1.trans hg2⟩
  · have hb2 : b = true := by cases b <;> simp_all
    subst hb2
    obtain ⟨hl, -⟩ := hb rfl
    obtain ⟨n, hn⟩ : ∃ n, n = x.length := ⟨_, rfl⟩
    obtain ⟨L, hL⟩ : ∃ L, L = x.map tkA := ⟨_, rfl⟩
    have HMINE := Lib.hid (fun w' (h : Grew w w') => strongroomlaw18_mine.calls _ A c x _ w' (Kd.C_below hC h) hc (mine_f x (by omega)))
    have HREF := Lib.hid (fun w' (h : Grew w w') => rjoin_c w' A n c x (by rw [hn]; exact Kd.C_below hC h) hn.symm (by omega) (by omega))
    have HSAME := Lib.hid (fun w' (A' : Option Addr) (c' : Nat) (h : Grew w w') (hk : Kd.C k47 w' A' n (L.map tkL)) (hc' : n ≤ c') => by
      have e : L.map tkL = x.map fun y => tkL (tkA y) := by rw [hL, List.map_map]; rfl
      have hlen : (x.map fun y => tkL (tkA y)).length = n := by rw [List.length_map, hn]
      rw [e] at hk
      have := strongroomlaw18_sameTokens.calls _ A' c' _ A c x _ w' (by rw [hlen]; exact hk) (by rw [hlen]; exact hc') (Kd.C_below hC h) hc (same_f x (by omega))
      rw [hlen, ← hn] at this
      exact this)
    have HN := Lib.hid (show L.length = n from by rw [hL, List.length_map, hn])
    have HME := Lib.hid (show (x.map fun y => tkL (tkA y)) = L.map tkL from by rw [hL, List.map_map]; rfl)
    have HML := Lib.hid (show (x.map fun y => tkL (tkA y)).length = n from by rw [List.length_map, hn])
    rw [← hL] at HREF
    rw [← hn] at HFEW hc HMINE ⊢
    have hn2 : n ≤ 600 := by omega
    obtain ⟨J, hJ⟩ : ∃ J, J = joinR L := ⟨_, rfl⟩
    have HJG := Lib.hid (show ∀ k, J = some (k, false) → goodL 0 L ∧ k = tellL L ∧ k ≤ 65536 from fun k hk => by
      rw [hJ] at hk
      obtain ⟨h1, h2, h3⟩ := jo_good L 0 k (by omega) hk
      exact ⟨h1, by omega, h3⟩)
    have HJ := Lib.hid hJ
    clear hb hfew hl hn hL hC hb1 hJ
    go_enter Try.func3, Try.ntmps3
    go_wp2_with fail
    refine HFEW.out.mono ?_
    rintro e w1 ⟨_, rfl, rfl, hg1⟩
    go_wp2_with fail
    refine (HMINE.out w1 hg1).mono ?_
    rintro e w2 ⟨v2, rfl, hR2, hg2⟩
    obtain ⟨A2, c2, hv2, hc2, hC2⟩ := Kd.R_reads hR2
    rw [HML.out] at hv2 hc2 hC2
    subst hv2
    rw [HME.out] at hC2
    have HJOIN := Lib.hid (join_c w2 A2 n c2 L hC2 HN.out hc2 (by omega))
    have hg12 := hg1.trans hg2
    clear hR2 hC2 hc2
    go_wp2_with fail
    refine HJOIN.out.mono ?_
    rintro e w3 ⟨v3, rfl, hV3, hg3⟩
    have hg13 := hg12.trans hg3
    have HREF3 := Lib.hid (HREF.out w3 hg13)
    unfold JoinV at hV3
    rw [← HJ.out] at hV3
    unfold rjoinV at HREF3
    rw [← HJ.out] at HREF3
    rcases J with _ | ⟨k, lg⟩
    · simp only at hV3
      subst hV3
      go_wp2_with fail
      refine HREF3.out.mono ?_
      rintro e w4 ⟨_, rfl, rfl, hg4⟩
      have hcv := conv_nil w4
      go_wp2_with fail
      refine (lives_c _).mono ?_
      rintro e w5 ⟨_, rfl, rfl, hg5⟩
      go_wp2_with fail
      go_ret
      exact ⟨_, rfl, rfl, hg13.trans (hg4.trans hg5)⟩
    · cases lg with
      | true =>
        simp only at hV3
        subst hV3
        go_wp2_with fail
        refine HREF3.out.mono ?_
        rintro e w4 ⟨_, rfl, rfl, hg4⟩
        have hcv := conv_nil w4
        go_wp2_with fail
        refine (lives_c _).mono ?_
        rintro e w5 ⟨_, rfl, rfl, hg5⟩
        go_wp2_with fail
        go_ret
        exact ⟨_, rfl, rfl, hg13.trans (hg4.trans hg5)⟩
      | false =>
        simp only at hV3
        obtain ⟨v0, rfl, hown⟩ := hV3
        simp only at HREF3
        obtain ⟨hgood, hke, hk6⟩ := HJG.out k rfl
        obtain ⟨l, hl⟩ : ∃ l, l = layL k L := ⟨_, rfl⟩
        have hll : l.length ≤ 100000 := by
          have := layL_len hk6 (goodL_right L 0 hgood)
          rw [HN.out] at this
          rw [hl]; omega
        have htl : tokensL l = some L := by rw [hl, hke]; exact tokensL_lay hgood (by omega)
        have hlb : ∀ y ∈ l, 0 ≤ y ∧ y < 256 := by rw [hl]; exact layL_bytes (goodL_right L 0 hgood)
        rw [← hl] at hown HREF3
        obtain ⟨A0, c0, rfl, hl0, hc0, hC0⟩ := own_C hown
        have HTOK := Lib.hid (fun w' (h : Grew w3 w') => by
          have := tokens_c w' A0 c0 l (Kd.C_below hC0 h) hc0 (by omega) hlb
          rw [htl] at this
          exact this)
        obtain ⟨ln, hln⟩ : ∃ ln, ln = l.length := ⟨_, rfl⟩
        obtain ⟨S, hS⟩ : ∃ S, S = strOfNums l := ⟨_, rfl⟩
        have HCV := Lib.hid (fun w' (h : Grew w3 w') => by
          have := Kd.C_string (P := Try.prog) (c := c0) Try.underlying25 Try.underlying5 Try.underlying9 (Kd.C_below hC0 h)
          rw [← hln, ← hS] at this
          exact this)
        rw [← hln] at HTOK
        rw [← hS] at HREF3
        have e1 : (S.toList == S.toList) = true := by simp
        rw [← hln]
        clear hgood hke hk6 hl hll htl hlb hown hl0 hC0 hln hS hc0
        go_wp2_with fail
        refine HREF3.out.mono ?_
        rintro e w4 ⟨_, rfl, rfl, hg4⟩
        have hcv := HCV.out w4 hg4
        go_wp2_with fail
        refine (HTOK.out w4 hg4).mono ?_
        rintro e w5 ⟨_, rfl, ⟨v5, rfl, hown5⟩, hg5⟩
        obtain ⟨A5, c5, rfl, hc5, hC5⟩ := tk_C hown5 rfl
        rw [HN.out] at hC5 hc5
        have HS5 := Lib.hid (HSAME.out w5 A5 c5 (hg13.trans (hg4.trans hg5)) hC5 hc5)
        rw [HN.out]
        clear hown5 hC5 hc5 hcv
        go_wp2_with fail
        refine HS5.out.mono ?_
        rintro e w6 ⟨rfl, hd6⟩
        have hg6 : Grew w5 w6 := hd6.below
        go_wp2_with fail
        refine (lives_c _).mono ?_
        rintro e w7 ⟨_, rfl, rfl, hg7⟩
        go_wp2_with fail
        go_ret
        exact ⟨_, rfl, rfl, hg13.trans (hg4.trans (hg5.trans (hg6.trans hg7)))⟩
end Go.Proofs.Ytehbebpemnanoaa.F

-- RowLzJoins
namespace Go.Proofs.Ytehbebpemnanoaa.lzJoins
open Go.ChangeShapes Go.WideShapes Go.ChangeAt Go.RowKit
open Go.ChangeMaps (open_string shut_string)
set_option linter.unusedVariables false
set_option linter.unusedSimpArgs false
theorem own : ownKnob Try.prog.godebug = none := by kernel_rfl
theorem laidOut : laidOutB Try.prog = true := by kernel_rfl
set_option maxRecDepth 100000 in
theorem lifted (os : Os) (started : os.Started) (H : Type) (enc : TypeId × Value → H) :
    ReturnsInHanded {} Try.checked os 3 .any (Rows.lzJoinsSpec.pre6 enc Try.prog Try.f3 Rows.lzJoinsRow.domain false) (Rows.lzJoinsSpec.post enc Try.prog Try.f3 false true false false) := by
  refine returnsInHanded_of_change_sized (C := Try.checked) own started (by kernel_rfl) Try.func3
    (ChangeSpec.witness6 (enc := enc) (C := Try.checked) false ⟨#[], #[.slice none 0 0], []⟩ 8 (by kernel_rfl) (by kernel_rfl) (by kernel_rfl) (by kernel_rfl)) ?_
  intro W base args ds gs before hval0 hW hcnd hsz0 _
  have hsz : (DataW.weightsEach Try.prog (Try.f3.params.toList ++ Rows.lzJoinsSpec.plain.varTypes Try.prog) (ds ++ gs)).all (· ≤ reachBytes) = true := hsz0
  have hval : ∀ (j : Nat) t v, Try.f3.params[j]? = some t → args[j]? = some v → Value.okWide Try.prog W .any base t v := hval0
  have hW' := hW
  obtain ⟨p, q, hA0, hV, rfl, hfz, hnd⟩ := hW
  have hA : DataW.TrodAll enc Try.prog W 0 (fun _ => true) true Try.f3.params.toList args.toList ds p := hA0
  rw [Try.params3] at hA hval hsz
  obtain ⟨v0, vs0, d0, ds0, p0, q0, hargs, rfl, rfl, h0, r0⟩ := trodAll_cons hA
  obtain ⟨rfl, rfl, rfl⟩ := trodAll_nil r0
  obtain rfl : args = #[v0] := by cases args; simp_all
  obtain ⟨rfl, rfl⟩ := trodVars_none hV
  obtain ⟨a0, len0, cap0, rfl⟩ := okWide_slice Try.underlying22 (hval 0 22 v0 rfl rfl)
  have k0 := h0
  have lt0 : ∀ x ∈ p0, x.block < W.heap.size := by obtain ⟨m, hm⟩ := k0; exact DataW.trod_lt m _ _ _ hm
  obtain ⟨x0, ⟨A0, cp0, e0, hc0, hC0⟩, ok0⟩ := Go.Proofs.YtehbebpemnanoaaO.opensW_arg (d := (Go.Proofs.YtehbebpemnanoaaW.PrintWords.Kd.slice 46 Go.Proofs.Ytehbebpemnanoaa.F.k46)) (Go.Proofs.YtehbebpemnanoaaO.opensW_slice Try.underlying22 (show Go.Proofs.YtehbebpemnanoaaO.OpensW _ _ Go.Proofs.Ytehbebpemnanoaa.F.k46 _ from Go.Proofs.YtehbebpemnanoaaO.opensW_iso (fun x : Go.Proofs.Ytehbebpemnanoaa.F.S46 => (x.f0, x.f1, x.f2)) (fun p => ⟨p.1, p.2.1, p.2.2⟩) (fun _ => rfl) (Go.Proofs.YtehbebpemnanoaaO.opensW_struct Try.underlying46 (Go.Proofs.YtehbebpemnanoaaO.opensF_cons (Go.Proofs.YtehbebpemnanoaaO.Opens.w (Go.Proofs.YtehbebpemnanoaaO.opens_int Try.underlying3)) (by kernel_rfl) (Go.Proofs.YtehbebpemnanoaaO.opensF_cons (Go.Proofs.YtehbebpemnanoaaO.Opens.w (Go.Proofs.YtehbebpemnanoaaO.opens_int Try.underlying3)) (by kernel_rfl) (Go.Proofs.YtehbebpemnanoaaO.opensF_one (Go.Proofs.YtehbebpemnanoaaO.opensW_string Try.underlying9) (by kernel_rfl)))) (by kernel_rfl))) (by kernel_rfl)) hsz (j := 0) (t := 22) rfl rfl h0
  obtain ⟨rfl, rfl, rfl⟩ := Value.slice.inj (List.cons.inj e0).1
  clear hA0 hval0 hsz0 hsz
  refine (Go.Proofs.YtehbebpemnanoaaR.is_tells (Go.Proofs.Ytehbebpemnanoaa.F.LzJoins_c W a0 cap0 x0 hC0 hc0 ok0)).mono fun e W' ⟨he, bel⟩ => ?_
  subst he
  exact ⟨_, rfl, _, _, _, [], _, [], hW', trodAll_mk1 (shut_bool Try.underlying4 _), (trodAll_cons_mk (Below.trod laidOut (by kernel_rfl) (of_decide_eq_true (by kernel_rfl)) k0 bel lt0) trodAll_mk0), rfl, bel.frame _, fun h => by cases h⟩
theorem over : Rows.lzJoinsRow.holds Try.pinned (OpenSpec.ofChange Rows.lzJoinsSpec) :=
  OpenClaim.holds_of_wide 3 Try.f3 rfl rfl rfl rfl rfl rfl rfl ⟨rfl, rfl, rfl, rfl, rfl⟩ rfl rfl rfl rfl rfl (by kernel_rfl) Try.func3 (by kernel_rfl)
    (of_decide_eq_true (by kernel_rfl)) (by unfold Func.isWrapper; first | (rw [if_pos (by decide +kernel)]; kernel_rfl) | (rw [if_neg (by decide +kernel)]; exact ⟨rfl, rfl⟩))
    (fun os started H enc _ => lifted os started H enc)
end Go.Proofs.Ytehbebpemnanoaa.lzJoins
namespace Go.Proofs.Ytehbebpemnanoaa
/-- The row, under a short name, for the claim. -/
theorem lzJoins_holds : Rows.LzJoinsSaid := lzJoins.over
#print axioms lzJoins_holds
end Go.Proofs.Ytehbebpemnanoaa
