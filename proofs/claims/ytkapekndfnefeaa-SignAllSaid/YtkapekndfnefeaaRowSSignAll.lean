/- The row of the law SignAll: for every input the law's call returns true, whatever memory; no condition. Out of the contract SignAll_c. -/
import Derived.Test.YtkapekndfnefeaaSD
import Derived.Test.YtkapekndfnefeaaRows
import Derived.WalkKit
import Derived.ProofKit
import Derived.OpenShut
import Derived.ShutString
import Derived.ChangeOld
import Derived.Below
import Derived.SizedLaws
import Derived.Test.YtkapekndfnefeaaWSized

-- SignAll
namespace Go.Proofs.Ytkapekndfnefeaa.F
open Go Go.RowKit Go.Proofs.YtkapekndfnefeaaW.PrintWords Go.Proofs.YtkapekndfnefeaaW.PrintLast Go.Proofs.YtkapekndfnefeaaW.PrintMore Go.Proofs.YtkapekndfnefeaaM Go.Proofs.YtkapekndfnefeaaR
attribute [local go_sem] max2_int min2_int max_two min_two
set_option linter.unusedSimpArgs false
set_option linter.unusedVariables false
set_option maxRecDepth 100000
/-- both give the same blocks, few and short -/
theorem blocks_few (t : ByteArray) (size : Int) (ht : t.size ≤ 5000) : ∃ (k : Nat) (L : List ByteArray) (e : Int), sign_Blocks.f k t size = some (L, e) ∧ strongroomref10_Blocks.f k t size = some (L, e) ∧ (e ≠ 0 → L = []) ∧ L.length ≤ 2000 ∧ ∀ b ∈ L, b.size ≤ 1024 := by
  obtain ⟨k, L, e, h1, h2, ⟨he, hL⟩ | ⟨s, hs, h0, h128, h1024, he, hL⟩⟩ := blocks_f t size ht
  · exact ⟨k, L, e, h1, h2, fun _ => hL, by rw [hL]; simp, by rw [hL]; simp⟩
  · refine ⟨k, L, e, h1, h2, fun h => absurd he h, ?_, ?_⟩
    · rw [hL, blksT_len]
      unfold cntT
      have := Nat.div_le_self (t.size + s - 1) s
      omega
    · intro b hb
      rw [hL] at hb
      unfold blksT at hb
      obtain ⟨m, -, rfl⟩ := List.mem_map.1 hb
      unfold blkT
      rw [ByteArray.size_extract]
      omega
set_option maxHeartbeats 2000000 in
theorem SignAll_c (w : World) (key t : ByteArray) (size : Int) (hk : key.size ≤ 140737488351232) (ht : t.size ≤ 140737488351232) (hs : (Lit.int .i64 size).wf = true) :
    Calls Try.prog 5 #[.string key, .string t, .int .i64 size] w (Tells w (Is (.bool true))) := by
  clear hs
  obtain ⟨ks, hks⟩ : ∃ ks, ks = key.size := ⟨_, rfl⟩
  obtain ⟨bs, hbs⟩ : ∃ bs, bs = t.size := ⟨_, rfl⟩
  have hks' := hks.symm
  have hbs' := hbs.symm
  by_cases hgo : ks ≤ 1000 ∧ bs ≤ 2000
  · obtain ⟨k, L, e, hf1, hf2, he, hL, hb⟩ := blocks_few t size (by omega)
    have H0 := Lib.hid (fun w => signs_c w key t size k L e hf1 he (by omega) (fun b h => by have := hb b h; omega) (by omega))
    have H1 := Lib.hid (fun w => sign_Blocks.calls k t size _ _ w hf1)
    have HONE := Lib.hid (fun w b (h : b ∈ L) => rone_c w key b (by omega) (by have := hb b h; omega))
    have d1 : decide (1000 < ks) = false := decide_eq_false (by omega)
    have d1' : decide (1000 < (ks : Int)) = false := decide_eq_false (by omega)
    have d2 : decide (2000 < bs) = false := decide_eq_false (by omega)
    have d2' : decide (2000 < (bs : Int)) = false := decide_eq_false (by omega)
    obtain ⟨n, hn⟩ : ∃ n, n = L.length := ⟨_, rfl⟩
    have HN := Lib.hid hn.symm
    have HLn := Lib.hid (show n ≤ 2000 from by omega)
    have HM := Lib.hid (show (L.map (oneS key)).length = n from by rw [List.length_map, hn])
    clear hk ht hks hbs hgo hf1 hf2 he hL hb hn
    go_enter Try.func5, Try.ntmps5
    go_wp2_with fail
    refine (H0.out _).mono ?_
    rintro e0 w1 ⟨_, rfl, ⟨v0, rfl, hown⟩, hg1⟩
    obtain ⟨A0, c0, rfl, hc0, hC0⟩ := sg_C (by rw [HM.out] at hown; exact hown) HM.out
    have HC0 := Lib.hid hC0
    clear hown hC0
    go_wp2_with fail
    refine (H1.out _).mono ?_
    rintro e1 w2 ⟨v1, rfl, hR1, hg2⟩
    obtain ⟨A1, c1, hv1, hc1, hC1⟩ := Kd.R_reads hR1
    rw [HN.out] at hC1 hc1 hv1
    subst hv1
    have HC1 := Lib.hid hC1
    clear hR1 hC1 hc1 hc0
    by_cases h60 : 60 < n
    · have d3 : decide (60 < n) = true := decide_eq_true h60
      have d3' : decide (60 < (n : Int)) = true := decide_eq_true (by omega)
      go_wp2_with fail
      refine (lives_c _).mono ?_
      rintro e w4 ⟨_, rfl, rfl, hg4⟩
      go_wp2
      go_ret
      exact ⟨_, rfl, rfl, Grew.trans hg1 (Grew.trans hg2 hg4)⟩
    · have d3 : decide (60 < n) = false := decide_eq_false h60
      have d3' : decide (60 < (n : Int)) = false := decide_eq_false (by omega)
      go_wp2_with fail
      have heq : ∀ (x : S25) (w' : World), (Op.equalIn 10000 25 (.agg #[.int .u32 x.f0, .string x.f1]) (.agg #[.int .u32 x.f0, .string x.f1])).run Try.prog w' = .ok true w' := fun x w' => by
        have h := eqA25 9998 w' x.f0 x.f0 x.f1 x.f1
        simpa using h
      have HEQ := Lib.hid heq
      clear heq
      go_loopw [11] (fun iv wr => ∃ (pre suf : List ByteArray), iv = .int .i64 (pre.length : Int) ∧ L = pre ++ suf ∧ Grew w2 wr) (fun iv _ => n - (intOf iv).toNat)
      case atStart => exact ⟨[], L, rfl, rfl, Grew.refl _⟩
      case round =>
        obtain ⟨pre, suf, rfl, hp, hgr⟩ := hrel
        have hnn := HN.out
        rw [hp, List.length_append] at hnn
        rcases suf with _ | ⟨b, suf⟩
        · have d1 : decide ((pre.length : Int) < (n : Int)) = false := decide_eq_false (by simp at hnn; omega)
          have d2 : decide (pre.length < n) = false := decide_eq_false (by simp at hnn; omega)
          clear hp hnn
          go_wp2_with fail
          refine (lives_c _).mono ?_
          rintro e w4 ⟨_, rfl, rfl, hg4⟩
          go_wp2
          go_ret
          exact ⟨_, rfl, rfl, Grew.trans hg1 (Grew.trans hg2 (Grew.trans hgr hg4))⟩
        · have hlt : pre.length < n := by simp at hnn; omega
          have d1 : decide ((pre.length : Int) < (n : Int)) = true := decide_eq_true (by omega)
          have d2 : decide (pre.length < n) = true := decide_eq_true hlt
          have i1 : (pre.length : Int) < (n : Int) := by omega
          obtain ⟨ad1, rfl, hcell⟩ := strs_cell HC1.out pre.length hlt
          rw [show L.getD pre.length ByteArray.empty = b from by rw [hp]; simp [List.getD]] at hcell
          obtain ⟨ad0, rfl, k0, k1⟩ := at_T25 HC0.out (pre.length : Int) (by omega) i1
          rw [Int.toNat_natCast, show rd_T25 (L.map (oneS key)) (pre.length : Int) = oneS key b from by
            unfold rd_T25; rw [Int.toNat_natCast, hp, List.map_append, List.map_cons]; simp [List.getD]] at k0 k1
          obtain ⟨x, hx⟩ : ∃ x, x = oneS key b := ⟨_, rfl⟩
          rw [← hx] at k0 k1
          have hse : ∀ w, Calls Try.prog 11 #[.string key, .string b] w (Tells w (Is (.agg #[.int .u32 x.f0, .string x.f1]))) := fun w => by rw [hx]; exact HONE.out w b (by rw [hp]; simp)
          have HSE := Lib.hid hse
          have K0 := Lib.hid (pw_cell_below (Grew.trans hg2 hgr) k0)
          have K1 := Lib.hid (pw_cell_below (Grew.trans hg2 hgr) k1)
          have KB := Lib.hid (pw_cell_below hgr hcell)
          have HP := Lib.hid (show L = (pre ++ [b]) ++ suf from by rw [hp]; simp)
          have HEX := Lib.hid (HEQ.out x)
          have hw : IntKind.i64.wrap ((pre.length : Int) + 1) = (pre.length : Int) + 1 := by
            have := HLn.out
            rw [IntWalk.i64_in _ (by omega)]
          have HG := Lib.hid hgr
          clear hp hnn hx hse k0 k1 hcell hgr
          go_wp2_with fail
          apply region_grew [Is _, Is _, Is _, Is _, Is _, Is _, Is _, Is _, Is _, Is _] [([(7, none)], none), ([(11, none)], none), ([(68, some 0), (69, some 1)], none), ([(70, some 2)], none), ([(0, none)], none), ([(9, none)], none), ([(11, none)], none), ([(73, some 5), (74, some 6)], none), ([(75, some 7)], none), ([(72, some 4), (76, some 8)], none)] [(68, 0), (69, 1), (70, 2), (71, 3), (72, 4), (73, 5), (74, 6), (75, 7), (76, 8), (77, 9)] rfl (by kernel_rfl) (by kernel_rfl) (show Stable Grew _ from ⟨Is.stable _, Is.stable _, Is.stable _, Is.stable _, Is.stable _, Is.stable _, Is.stable _, Is.stable _, Is.stable _, Is.stable _, trivial⟩)
          · show OpsHold _ _ _ _ _ _ _ _ _
            refine ⟨fun a_ wx hR hD K hK => ?_, ?_⟩
            · have hG : Grew wr wx := (Grew.drew _).trans hR
              simp [Deps, Dep, at_, Is] at hD
              go_simp
              exact hK _ _ (Grew.refl _) rfl
            refine ⟨fun a_ wx hR hD K hK => ?_, ?_⟩
            · have hG : Grew wr wx := (Grew.drew _).trans hR
              simp [Deps, Dep, at_, Is] at hD
              go_simp
              exact hK _ _ (Grew.refl _) rfl
            refine ⟨fun a_ wx hR hD K hK => ?_, ?_⟩
            · have hG : Grew wr wx := (Grew.drew _).trans hR
              simp [Deps, Dep, at_, Is] at hD
              obtain ⟨hd0, hd1⟩ := hD
              go_simp
              exact hK _ _ (Grew.refl _) rfl
            refine ⟨fun a_ wx hR hD K hK => ?_, ?_⟩
            · have hG : Grew wr wx := (Grew.drew _).trans hR
              simp [Deps, Dep, at_, Is] at hD
              have e0 := pw_cell_below hG K0.out
              have e1 := pw_cell_below hG K1.out
              go_simp
              exact hK _ _ (Grew.refl _) rfl
            refine ⟨fun a_ wx hR hD K hK => ?_, ?_⟩
            · have hG : Grew wr wx := (Grew.drew _).trans hR
              simp [Deps, Dep, at_, Is] at hD
              go_simp
              exact hK _ _ (Grew.refl _) rfl
            refine ⟨fun a_ wx hR hD K hK => ?_, ?_⟩
            · have hG : Grew wr wx := (Grew.drew _).trans hR
              simp [Deps, Dep, at_, Is] at hD
              go_simp
              exact hK _ _ (Grew.refl _) rfl
            refine ⟨fun a_ wx hR hD K hK => ?_, ?_⟩
            · have hG : Grew wr wx := (Grew.drew _).trans hR
              simp [Deps, Dep, at_, Is] at hD
              go_simp
              exact hK _ _ (Grew.refl _) rfl
            refine ⟨fun a_ wx hR hD K hK => ?_, ?_⟩
            · have hG : Grew wr wx := (Grew.drew _).trans hR
              simp [Deps, Dep, at_, Is] at hD
              obtain ⟨hd0, hd1⟩ := hD
              go_simp
              exact hK _ _ (Grew.refl _) rfl
            refine ⟨fun a_ wx hR hD K hK => ?_, ?_⟩
            · have hG : Grew wr wx := (Grew.drew _).trans hR
              simp [Deps, Dep, at_, Is] at hD
              have e_ := pw_cell_below hG KB.out
              go_simp
              exact hK _ _ (Grew.refl _) rfl
            refine ⟨fun a_ wx hR hD K hK => ?_, ?_⟩
            · have hG : Grew wr wx := (Grew.drew _).trans hR
              simp [Deps, Dep, at_, Is] at hD
              obtain ⟨hd0, hd1⟩ := hD
              go_simp
              have hcn := HSE.out wx
              with_reducible refine hcn.mono ?_
              clear hcn
              rintro e wy ⟨v, rfl, hv, hg⟩
              exact hK _ _ hg hv
            trivial
          · show EndHold _ _ _ _ _ _ _
            refine end_all (xs := [_, _, _, _, _, _, _, _, _, _]) ⟨rfl, rfl, rfl, rfl, rfl, rfl, rfl, rfl, rfl, rfl, trivial⟩ ?_
            rintro w3 hR1 -
            refine ⟨?_⟩
            have hG_w3 : Grew wr w3 := (Grew.drew _).trans hR1
            clear hR1
            simp only [Act.put, List.setIfInBounds_toArray, List.set_cons_succ, List.set_cons_zero, dropN, putEach]
            go_wp2_with fail
            go_roundw
            case rel => exact ⟨pre ++ [b], suf, by simp, HP.out, Grew.trans HG.out hG_w3⟩
            case measure => simp [intOf]; omega
  · have hgo2 : (decide (1000 < ks) = true ∧ decide (1000 < (ks : Int)) = true ∧ 1000 < ks) ∨ ((decide (1000 < ks) = false ∧ decide (1000 < (ks : Int)) = false ∧ ¬ 1000 < ks) ∧ decide (2000 < bs) = true ∧ decide (2000 < (bs : Int)) = true ∧ 2000 < bs) := by
      by_cases h : 1000 < ks
      · exact .inl ⟨decide_eq_true h, decide_eq_true (by omega), h⟩
      · have h2 : 2000 < bs := by omega
        exact .inr ⟨⟨decide_eq_false h, decide_eq_false (by omega), h⟩, decide_eq_true h2, decide_eq_true (by omega), h2⟩
    clear hk ht hks hbs hgo
    rcases hgo2 with ⟨d1, d2, d3⟩ | ⟨⟨d1, d2, d3⟩, d4, d5, d6⟩
    all_goals
      go_enter Try.func5, Try.ntmps5
      go_wp2_with fail
      refine (lives_c _).mono ?_
      rintro e w2 ⟨_, rfl, rfl, hg2⟩
      go_wp2_with fail
      go_ret
      exact ⟨_, rfl, rfl, hg2⟩
end Go.Proofs.Ytkapekndfnefeaa.F

-- RowSignAll
namespace Go.Proofs.Ytkapekndfnefeaa.signAll
open Go.ChangeShapes Go.WideShapes Go.ChangeAt Go.RowKit
open Go.ChangeMaps (open_string shut_string)
set_option linter.unusedVariables false
set_option linter.unusedSimpArgs false
theorem own : ownKnob Try.prog.godebug = none := by kernel_rfl
theorem laidOut : laidOutB Try.prog = true := by kernel_rfl
set_option maxRecDepth 100000 in
theorem lifted (os : Os) (started : os.Started) (H : Type) (enc : TypeId × Value → H) :
    ReturnsInHanded {} Try.checked os 5 .any (Rows.signAllSpec.pre6 enc Try.prog Try.f5 Rows.signAllRow.domain false) (Rows.signAllSpec.post enc Try.prog Try.f5 false true false false) := by
  refine returnsInHanded_of_change_sized (C := Try.checked) own started (by kernel_rfl) Try.func5
    (ChangeSpec.witness6 (enc := enc) (C := Try.checked) false ⟨#[], #[.string ByteArray.empty, .string ByteArray.empty, .int .i64 0], []⟩ 8 (by kernel_rfl) (by kernel_rfl) (by kernel_rfl) (by kernel_rfl)) ?_
  intro W base args ds gs before hval0 hW hcnd hsz0 _
  have hsz : (DataW.weightsEach Try.prog (Try.f5.params.toList ++ Rows.signAllSpec.plain.varTypes Try.prog) (ds ++ gs)).all (· ≤ reachBytes) = true := hsz0
  have hval : ∀ (j : Nat) t v, Try.f5.params[j]? = some t → args[j]? = some v → Value.okWide Try.prog W .any base t v := hval0
  have hW' := hW
  obtain ⟨p, q, hA0, hV, rfl, hfz, hnd⟩ := hW
  have hA : DataW.TrodAll enc Try.prog W 0 (fun _ => true) true Try.f5.params.toList args.toList ds p := hA0
  rw [Try.params5] at hA hval hsz
  obtain ⟨v0, vs0, d0, ds0, p0, q0, hargs, rfl, rfl, h0, r0⟩ := trodAll_cons hA
  obtain ⟨v1, vs1, d1, ds1, p1, q1, rfl, rfl, rfl, h1, r1⟩ := trodAll_cons r0
  obtain ⟨v2, vs2, d2, ds2, p2, q2, rfl, rfl, rfl, h2, r2⟩ := trodAll_cons r1
  obtain ⟨rfl, rfl, rfl⟩ := trodAll_nil r2
  obtain rfl : args = #[v0, v1, v2] := by cases args; simp_all
  obtain ⟨rfl, rfl⟩ := trodVars_none hV
  obtain ⟨a0, rfl, rfl, rfl, y0⟩ := open_string Try.underlying9 (hval 0 9 v0 rfl rfl) h0
  have w0 : a0.size ≤ 140737488351232 := by
    have z := sized_string hsz (j := 0) (t := 9) rfl rfl
    rw [Array.length_toList] at z
    exact z
  obtain ⟨a1, rfl, rfl, rfl, y1⟩ := open_string Try.underlying9 (hval 1 9 v1 rfl rfl) h1
  have w1 : a1.size ≤ 140737488351232 := by
    have z := sized_string hsz (j := 1) (t := 9) rfl rfl
    rw [Array.length_toList] at z
    exact z
  obtain ⟨a2, rfl, rfl, rfl, w2⟩ := open_int Try.underlying3 (hval 2 3 v2 rfl rfl) h2
  clear hA0 hval0 hsz0 hsz
  refine (Go.Proofs.YtkapekndfnefeaaR.is_tells (Go.Proofs.Ytkapekndfnefeaa.F.SignAll_c W a0 a1 a2 w0 w1 w2)).mono fun e W' ⟨he, bel⟩ => ?_
  subst he
  exact ⟨_, rfl, _, _, _, [], _, [], hW', trodAll_mk1 (shut_bool Try.underlying4 _), (trodAll_cons_mk (shut_string Try.underlying9 y0) (trodAll_cons_mk (shut_string Try.underlying9 y1) (trodAll_cons_mk (shut_int Try.underlying3 w2) trodAll_mk0))), rfl, bel.frame _, fun h => by cases h⟩
theorem over : Rows.signAllRow.holds Try.pinned (OpenSpec.ofChange Rows.signAllSpec) :=
  OpenClaim.holds_of_wide 5 Try.f5 rfl rfl rfl rfl rfl rfl rfl ⟨rfl, rfl, rfl, rfl, rfl⟩ rfl rfl rfl rfl rfl (by kernel_rfl) Try.func5 (by kernel_rfl)
    (of_decide_eq_true (by kernel_rfl)) (by unfold Func.isWrapper; first | (rw [if_pos (by decide +kernel)]; kernel_rfl) | (rw [if_neg (by decide +kernel)]; exact ⟨rfl, rfl⟩))
    (fun os started H enc _ => lifted os started H enc)
end Go.Proofs.Ytkapekndfnefeaa.signAll
namespace Go.Proofs.Ytkapekndfnefeaa
/-- The row, under a short name, for the claim. -/
theorem signAll_holds : Rows.SignAllSaid := signAll.over
#print axioms signAll_holds
end Go.Proofs.Ytkapekndfnefeaa
