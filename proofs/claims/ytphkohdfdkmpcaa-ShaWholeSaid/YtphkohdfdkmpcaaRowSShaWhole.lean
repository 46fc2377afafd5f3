/- The row of the law ShaWhole: for every input the law's call returns true, whatever memory; no condition. Out of the contract ShaWhole_c. -/
import Derived.Test.YtphkohdfdkmpcaaSB
import Derived.SizedLaws
import Derived.ChangeSlices
import Derived.Test.YtphkohdfdkmpcaaRows
import Derived.WalkKit
import Derived.ProofKit
import Derived.OpenShut
import Derived.ShutString
import Derived.ChangeOld
import Derived.Below

-- ShaWhole
namespace Go.Proofs.Ytphkohdfdkmpcaa.F
open Go Go.RowKit Go.Proofs.YtphkohdfdkmpcaaW.PrintWords Go.Proofs.YtphkohdfdkmpcaaW.PrintLast Go.Proofs.YtphkohdfdkmpcaaW.PrintMore Go.Proofs.YtphkohdfdkmpcaaR
attribute [local go_sem] max2_int min2_int max_two min_two
set_option linter.unusedSimpArgs false
set_option linter.unusedVariables false
set_option maxRecDepth 100000
theorem wf8 {l : List Int} (h : ∀ x ∈ l, (Lit.int .u8 x).wf = true) : ∀ x ∈ l, 0 ≤ x ∧ x < 256 := fun x hx => by
  have := h x hx
  simp [Lit.wf, IntKind.min, IntKind.max, IntKind.bits, IntKind.signed] at this
  omega
/-- a new block of eight words, another one than this one -/
def NB (base gs : Nat) : World → Value → Prop := fun w v => ∃ g, v = .pointer (some ⟨g, 0, none⟩) ∧ base ≤ g ∧ g ≠ gs ∧ ∃ cs : List Nat, cs.length = 8 ∧ Blk w g 40 (wcells cs)
/-- into that block these words are put -/
def PutB (base gs : Nat) (M : List Nat) : Value → World → World → Prop := fun v w w' => ∃ g, v = .pointer (some ⟨g, 0, none⟩) ∧ base ≤ g ∧ g ≠ gs ∧ (∃ cs : List Nat, cs.length = 8 ∧ Blk w g 40 (wcells cs)) ∧ w' = w.setRow g (wcells M).toArray
theorem NB.stable {base gs : Nat} {M : List Nat} (hM : M.length = 8) : ∀ w w' v, Grew w w' ∨ (∃ a : Act, PutB base gs M (a.tmps[6]?.getD undef) w w') → NB base gs w v → NB base gs w' v := fun w w' _ h ⟨g, h1, h2, h3, cs, h4, h5⟩ => by
  rcases h with hg | ⟨a, g', -, -, -, ⟨ds, -, h6⟩, rfl⟩
  · exact ⟨g, h1, h2, h3, cs, h4, h5.grew hg⟩
  · by_cases he : g = g'
    · subst he
      exact ⟨g, h1, h2, h3, M, hM, h5.setRow _⟩
    · exact ⟨g, h1, h2, h3, cs, h4, h5.farRow he _⟩
theorem outL_get : ∀ (s : List Nat) (i k : Nat), i < s.length → k < 4 → (outL s)[4 * i + k]? = (outW (s.getD i 0))[k]?
  | [], i, k, h, _ => by simp at h
  | x :: s, 0, k, _, hk => by
    show (outW x ++ outL s)[4 * 0 + k]? = _
    rw [List.getElem?_append_left (by show _ < 4; omega)]
    simp
  | x :: s, i + 1, k, h, hk => by
    show (outW x ++ outL s)[4 * (i + 1) + k]? = _
    rw [List.getElem?_append_right (by show 4 ≤ _; omega), show 4 * (i + 1) + k - (outW x).length = 4 * i + k from by show 4 * (i + 1) + k - 4 = _; omega, outL_get s i k (by simpa using h) hk]
    simp
theorem outL_bytes (s : List Nat) : ∀ z ∈ outL s, 0 ≤ z ∧ z < 256 := by
  intro z hz
  unfold outL outW at hz
  simp only [List.mem_flatMap, List.mem_cons, List.not_mem_nil, or_false] at hz
  obtain ⟨x, -, h⟩ := hz
  omega
theorem str_ix (l : List Int) (i v : Nat) (hb : ∀ y ∈ l, 0 ≤ y ∧ y < 256) (h : l[i]? = some (v : Int)) (w' : World) : Sem.run Try.prog (Instr.index 9 (.string (strOfNums l)) (.int .i64 (i : Int))) w' = .ok (.int .u8 (v : Int)) w' := by
  have hi : i < l.length := (List.getElem?_eq_some_iff.1 h).1
  have hv := hb _ (List.mem_of_getElem? h)
  have he : l[i] = (v : Int) := (List.getElem?_eq_some_iff.1 h).2
  rw [run_index_string w' _ _ .i64 _ (by rfl), dif_pos ⟨by omega, by rw [strOfNums_size]; omega⟩]
  congr 2
  show (((l.map fun n => UInt8.ofNat n.toNat).toArray[i]'(by simpa using hi)).toNat : Int) = v
  simp only [List.getElem_toArray, List.getElem_map, he, UInt8.toNat_ofNat', Int.toNat_natCast]
  omega
set_option maxHeartbeats 8000000 in
theorem ShaWhole_c (w : World) (A : Option Addr) (c : Nat) (l : List Int) (hr : Kd.C (Kd.int .u8) w A l.length l) (hc : l.length ≤ c) (hm : l.length ≤ 9223372036854775807) (hy : l.length * 1 ≤ 140737488351232) (hw : ∀ x ∈ l, (Lit.int .u8 x).wf = true) :
    Calls Try.prog 10 #[.slice A l.length c] w (Tells w (Is (.bool true))) := by
  have hb := Lib.hid (wf8 hw)
  obtain ⟨n, hn⟩ : ∃ n, n = l.length := ⟨_, rfl⟩
  rw [← hn] at hr hc ⊢
  clear hw hm hy
  by_cases h : 1000 < n
  · have h1 : decide (1000 < n) = true := decide_eq_true h
    have h2 : decide (1000 < (n : Int)) = true := decide_eq_true (by omega)
    clear hn
    go_enter Try.func10, Try.ntmps10
    go_wp2_with fail
    refine (lives_c _).mono ?_
    rintro e w' ⟨_, rfl, rfl, hg⟩
    go_wp2
    go_ret
    exact ⟨_, rfl, rfl, hg⟩
  · have h1 : decide (1000 < n) = false := decide_eq_false h
    have h2 : decide (1000 < (n : Int)) = false := decide_eq_false (by omega)
    have HR := Lib.hid hr
    have HN := Lib.hid hn
    have hE := Empty0.new w w.heap.size 5 (Nat.le_refl _)
    obtain ⟨b, hb1, hb2⟩ := hE
    obtain ⟨rfl⟩ : w.heap.size = b := by simpa using hb1
    have hgE : Grew w (w.alloc (.cells #[] 5)) := Grew.alloc _ _
    obtain ⟨v1, w1, hrun1, hown1, hgr1⟩ := app_fresh (P := Try.prog) (k := .u8) (w.alloc (.cells #[] 5)) w.heap.size 28 5 28 1 Try.underlying28 info5 (by decide) w.heap.size l A n c hb2 (reads_of (Kd.C_below HR.out hgE)) hgE.size (by omega)
    have hg1 := Grew.trans hgE hgr1
    obtain ⟨A1, c1, rfl⟩ := own_slice hown1
    rw [← hn] at hrun1 hown1
    have HP := Lib.hid (pad_c n (by omega) w1)
    clear hr hn hb1 hb2 hgE hgr1
    go_enter Try.func10, Try.ntmps10
    go_wp2_with (at_builtin; refine wpList_app (by rfl) (.tmp 15) (.tmp 16) 28 (by rfl) (by rfl) (by rfl) hrun1 ?_)
    refine HP.out.mono ?_
    rintro e w2 ⟨v22, rfl, hpo, hg2⟩
    obtain ⟨A6, c6, rfl⟩ := own_slice hpo
    obtain ⟨v3, w3, hrun, hro3, hgr3, hat3⟩ := app_num (P := Try.prog) (k := .u8) w2 w.heap.size 28 5 28 1 Try.underlying28 info5 (by decide) (.slice A1 n c1) l (padL n) A6 (padL n).length c6 (by have h := pw_own_below hown1 hg2; rw [← HN.out]; exact h) (own_reads' hpo) (Nat.le_trans hg1.size hg2.size) (by rw [← HN.out, padL_len]; unfold zN; omega)
    have hu3 : Upd (fun j => (Value.slice A1 n c1).ownBlock = some j) w2 w3 := (Upd.refl _ _).grown hgr3 (fun j hj => .inl hj)
    have hgw3 : Grew w w3 := Below.trans (Grew.trans hg1 hg2) (hu3.below (Grew.trans hg1 hg2).size (fun j hj => own_base hown1 j hj))
    obtain ⟨T, hT⟩ : ∃ T, T = l ++ padL n := ⟨_, rfl⟩
    rw [← hT] at hro3
    obtain ⟨A3, c3, rfl⟩ := own_slice hro3
    obtain ⟨m, hm⟩ : ∃ m, m = T.length := ⟨_, rfl⟩
    rw [← hm] at hrun hro3
    obtain ⟨np, hnp⟩ : ∃ np, np = (padL n).length := ⟨_, rfl⟩
    rw [← hnp] at hrun ⊢
    have hTf : T = fullL l := by rw [hT, HN.out]; rfl
    have hmb : m % 64 = 0 := by rw [hm, hTf]; exact fullL_len l
    have hml : m ≤ 1200 := by rw [hm, hT, List.length_append, padL_len, ← HN.out]; unfold zN; omega
    have hTb : ∀ y ∈ T, 0 ≤ y ∧ y < 256 := by
      intro y hy
      rw [hT] at hy
      rcases List.mem_append.1 hy with h | h
      · exact hb.out y h
      · exact padL_bytes n y h
    have HM := Lib.hid hm
    have HTF := Lib.hid hTf
    have HTB := Lib.hid hTb
    have HRO3 := Lib.hid hro3
    have HG3 := Lib.hid hgw3
    clear hT hm hro3 hgw3 hgr3 hat3 hu3 hpo hg2 hg1 hown1 hrun1 HP hnp hTf hTb
    go_wp2_with (at_builtin; refine wpList_app (by rfl) (.tmp 18) (.tmp 21) 28 (by rfl) (by rfl) (by rfl) hrun ?_)
    obtain ⟨gs, hgs⟩ : ∃ gs, gs = w3.heap.size := ⟨_, rfl⟩
    simp only [zeros8]
    have hs0 : Blk (w3.alloc (.cells (wcells (List.replicate 8 0)).toArray 40)) w3.heap.size 40 (wcells (s0To 0)) := by rw [s0To_0]; exact Blk.new _ _ _
    have hg0 : Grew w3 (w3.alloc (.cells (wcells (List.replicate 8 0)).toArray 40)) := Grew.alloc _ _
    have hgl : w3.heap.size ≤ gs := by omega
    rw [← hgs] at hs0 ⊢
    obtain ⟨W5, hW5⟩ : ∃ W5, W5 = w3.alloc (.cells (wcells (List.replicate 8 0)).toArray 40) := ⟨_, rfl⟩
    rw [← hW5] at hs0 hg0 ⊢
    clear hgs hW5 hrun
    go_loopw [5] (fun iv wq => ∃ i : Nat, iv = .int .i64 (i : Int) ∧ i ≤ 8 ∧ Blk wq gs 40 (wcells (s0To i)) ∧ Grew w3 wq) (fun iv _ => 8 - (intOf iv).toNat)
    case atStart => exact ⟨0, rfl, by omega, hs0, hg0⟩
    case round =>
      obtain ⟨i, rfl, hi, hs, hg⟩ := hrel
      clear hs0 hg0
      by_cases hi8 : i < 8
      · have d1 : decide ((i : Int) < 8) = true := decide_eq_true (by omega)
        have i1 : (i : Int) < 8 := by omega
        obtain ⟨p, hp⟩ : ∃ p, p = primesL.getD i 0 := ⟨_, rfl⟩
        have hpl : p < 4294967296 := by rw [hp]; exact primesL_lt i
        have hpc : ∀ w, Calls Try.prog 11 #[.int .i64 (i : Int)] w (Tells w (Is (.int .u32 (p : Int)))) := fun w => by
          have h := prime_c i w
          rw [primeI_nat i hi8, ← hp] at h
          exact h
        have hrc : ∀ w, Calls Try.prog 14 #[.int .u32 (p : Int), .bool false] w (Tells w (Is (.int .u32 ((s0w i : Nat) : Int)))) := fun w => by
          have h := root_c p hpl false w
          unfold s0w
          rw [← hp]
          exact h
        obtain ⟨r, hr⟩ : ∃ r, r = s0w i := ⟨_, rfl⟩
        rw [← hr] at hrc
        have HP := Lib.hid hpc
        have HQ := Lib.hid hrc
        have HS := Lib.hid hs
        have HRR := Lib.hid hr
        clear hpc hrc hs hp hr
        --A{
        go_wp2_with fail
        refine (HP.out wr).mono ?_
        rintro e w5 ⟨_, rfl, rfl, hg5⟩
        go_wp2_with fail
        refine (HQ.out w5).mono ?_
        rintro e w6 ⟨_, rfl, rfl, hg6⟩
        have HS6 := Lib.hid ((HS.out.grew hg5).grew hg6)
        have hgg := Grew.trans (Grew.trans hg hg5) hg6
        have c1 := HS6.out.at_ i
        rw [cells_get _ _ (by rw [s0To_len]; omega)] at c1
        have c2 := HS6.out.fz i
        go_wp2_with fail
        go_roundw
        case rel =>
          refine ⟨i + 1, by go_num, by omega, ?_, Grew.setCell_new hgg (by simpa using hgl) _⟩
          have h := HS6.out.set i (.int .u32 (r : Int))
          rw [wcells_set, HRR.out, s0To_succ i hi8] at h
          rw [HRR.out]
          exact h
        case measure => simp [intOf]; omega
        --A}
      · have d1 : decide ((i : Int) < 8) = false := decide_eq_false (by omega)
        obtain rfl : i = 8 := by omega
        rw [s0To_8] at hs
        have hC0 : ∀ w', Grew w3 w' → Kd.C (Kd.int .u8) w' A3 m (T.drop (64 * 0)) := fun w' hg => C_of (own_reads' (pw_own_below HRO3.out hg))
        have hc3 := own_le HRO3.out
        go_wp2_with fail
        try rw [show ((8 : Nat) : Int) = 8 from rfl]
        go_loopw [3] (fun v3 wq => ∃ (j mr : Nat) (A' : Option Addr) (c' : Nat), v3 = .slice A' mr c' ∧ mr + 64 * j = m ∧ mr ≤ c' ∧ (∀ w', Grew w3 w' → Kd.C (Kd.int .u8) w' A' mr (T.drop (64 * j))) ∧ Blk wq gs 40 (wcells (after kL s0L T j)) ∧ Grew w3 wq) (fun v3 _ => sliceLen v3)
        case atStart => exact ⟨0, m, A3, c3, rfl, by omega, hc3, hC0, hs, hg⟩
        case round =>
          obtain ⟨j, mr, A', c', rfl, hmj, hmc, hC, hs2, hg2⟩ := hrel
          clear hs hg hC0 hc3
          have HMJ0 := Lib.hid hmj
          by_cases h64 : 64 ≤ mr
          · have d1 : decide (64 ≤ mr) = true := decide_eq_true h64
            have d1' : decide (64 ≤ (mr : Int)) = true := decide_eq_true (by omega)
            have i64 : (64 : Int) ≤ (c' : Int) := by omega
            have n64 : 64 ≤ c' := by omega
            obtain ⟨S, hS⟩ : ∃ S, S = after kL s0L T j := ⟨_, rfl⟩
            have hsl : S.length = 8 := by rw [hS]; exact after_len s0L_len _
            have hsw : words S := by rw [hS]; exact after_words s0L_words _
            have hnext : after kL s0L T (j + 1) = mixL kL S (blkL T j) := by rw [hS]; rfl
            have hb64 : (blkL T j).length = 64 := by
              unfold blkL
              rw [List.length_take, List.length_drop, ← HM.out]; omega
            have hbb : ∀ y ∈ blkL T j, 0 ≤ y ∧ y < 256 := fun y hy => HTB.out y (List.mem_of_mem_drop (List.mem_of_mem_take hy))
            obtain ⟨M, hM⟩ : ∃ M, M = mixL kL S (blkL T j) := ⟨_, rfl⟩
            have hml2 : M.length = 8 := by rw [hM]; exact mixL_len _ _ _
            have hmx := fun w' (hg : Grew w3 w') => mixO_c w' S A' c' (blkL T j) hsl hsw hb64 hbb (C_of ((reads_of (hC w' hg)).take_ 64 h64)) n64
            simp only [← hM] at hmx
            rw [← hM] at hnext
            obtain ⟨A2, hsl2, hr2⟩ := print_cut (P := Try.prog) 28 5 .i64 (i := _) Try.underlying28 (by rfl) (by rfl) A' mr c' 64 h64
            obtain ⟨m2, hm2⟩ : ∃ m2, m2 = mr - 64 := ⟨_, rfl⟩
            obtain ⟨c2, hc2⟩ : ∃ c2, c2 = c' - 64 := ⟨_, rfl⟩
            rw [← hm2, ← hc2] at hsl2
            rw [← hm2] at hr2
            rw [show ((64 : Nat) : Int) = 64 from rfl] at hsl2
            have hC2 : ∀ w', Grew w3 w' → Kd.C (Kd.int .u8) w' A2 m2 (T.drop (64 * (j + 1))) := fun w' hg => by
              have h := hr2 w' .u8 _ hmc (reads_of (hC w' hg))
              rw [List.drop_drop] at h
              exact C_of (by rw [show 64 * (j + 1) = 64 * j + 64 from by omega]; exact h)
            rw [← hS] at hs2
            have hlt : m2 < mr := by omega
            have hmc2 : m2 ≤ c2 := by omega
            have hmj2 : m2 + 64 * (j + 1) = m := by omega
            have HS := Lib.hid hs2
            have HG := Lib.hid hg2
            have HSL := Lib.hid hsl
            have HSW := Lib.hid hsw
            have HNext := Lib.hid hnext
            have HML := Lib.hid hml2
            have HMX := Lib.hid hmx
            have HC2 := Lib.hid hC2
            have HMJ := Lib.hid hmj2
            clear hC hs2 hg2 hsl hsw hnext hb64 hbb hml2 hmx hr2 hC2 hm2 hc2 hS hM hmj hmj2
            --A{
            go_wp2_with fail
            apply region_bigQ 6 (PutB w3.heap.size gs M) [.plain, .plain, .plain, .plain, .plain, .plain, .float, .plain, .big] [Is _, Is _, Is _, Is _, Is _, Is _, Is _, NB w3.heap.size gs, Is undef] [([(4, none)], none), ([(3, none)], none), ([(37, some 1)], none), ([(36, some 0), (38, some 2)], none), ([(39, some 3)], none), ([(35, some 4)], none), ([(35, some 4)], none), ([], none), ([(6, some 7), (40, some 5)], none)] [(6, 7), (35, 4), (36, 0), (37, 1), (38, 2), (39, 3), (40, 5), (41, 6)] rfl (by kernel_rfl) (by kernel_rfl) (by kernel_rfl) (by kernel_rfl) (by kernel_rfl) rfl (show StableB Grew _ _ _ from ⟨(fun _ => Is.stableB _), (fun _ => Is.stableB _), (fun _ => Is.stableB _), (fun _ => Is.stableB _), (fun _ => Is.stableB _), (fun _ => Is.stableB _), (fun _ => Is.stableB _), (fun _ => NB.stable HML.out), (fun h_ => absurd rfl h_), trivial⟩)
            · show PhHoldQ _ _ _ _ _ _ _ _ _ _ _
              refine ⟨fun a_ wx hR hD K hK => ?_, ?_⟩
              · have hG : Grew wr wx := (Grew.drew _).trans hR
                simp [Deps, Dep, at_, Is] at hD
                exact wp_load_mid 40 (.tmp 4) rfl gs 0 (eval_tmp hD) (wcells S) _ (Blk.range0 (HS.out.grew hG)) Try.underlying40 (by rfl) (by rw [wcells_len, HSL.out]; kernel_rfl) (hK _ _ (Grew.refl _) rfl)
              refine ⟨fun a_ wx hR hD K hK => ?_, ?_⟩
              · have hG : Grew wr wx := (Grew.drew _).trans hR
                simp [Deps, Dep, at_, Is] at hD
                go_simp
                exact hK _ _ (Grew.refl _) rfl
              refine ⟨fun a_ wx hR hD K hK => ?_, ?_⟩
              · have hG : Grew wr wx := (Grew.drew _).trans hR
                simp [Deps, Dep, at_, Is] at hD
                go_simp
                exact hK _ _ (Grew.refl _) rfl
              refine ⟨fun a_ wx hR hD K hK => ?_, ?_⟩
              · have hG : Grew wr wx := (Grew.drew _).trans hR
                simp [Deps, Dep, at_, Is] at hD
                obtain ⟨hd0, hd1⟩ := hD
                go_simp
                have hcn := HMX.out wx (Grew.trans HG.out hG)
                with_reducible refine hcn.mono ?_
                clear hcn
                rintro e wy ⟨v, rfl, hv, hg⟩
                exact hK _ _ hg hv
              refine ⟨fun a_ wx hR hD K hK => ?_, ?_⟩
              · have hG : Grew wr wx := (Grew.drew _).trans hR
                simp [Deps, Dep, at_, Is] at hD
                go_simp
                exact hK _ _ (Grew.refl _) rfl
              refine ⟨fun a_ wx hR hD K hK => ?_, ?_⟩
              · have hG : Grew wr wx := (Grew.drew _).trans hR
                simp [Deps, Dep, at_, Is] at hD
                go_simp
                exact hK _ _ (Grew.refl _) rfl
              refine ⟨fun a_ wx hD K hK => ?_, ?_⟩
              · have hF_ := True.intro
                simp [Deps, Dep, at_, Is] at hD
                go_simp
                exact hK _ _ rfl rfl
              refine ⟨fun a_ wx hR hD K hK => ?_, ?_⟩
              · have hG : Grew wr wx := (Grew.drew _).trans hR
                go_simp
                simp only [zeros8]
                exact hK _ _ (Grew.alloc _ _) ⟨_, rfl, (Grew.trans HG.out hG).size, Ne.symm (Nat.ne_of_lt (HS.out.grew hG).lt), _, rfl, Blk.new _ _ _⟩
              refine ⟨⟨rfl, fun a_ wx hR hD K hK => ?_⟩, ?_⟩
              · have hG : Grew wr wx := (Grew.drew _).trans hR
                simp [Deps, Dep, at_, Is] at hD
                obtain ⟨hd0, hd1⟩ := hD
                obtain ⟨g1, h1, h2, h3, cs, h4, h5⟩ := hd0
                exact wp_store_row 40 (.tmp 6) (.tmp 40) rfl g1 (wcells M).toArray (eval_tmp h1) (eval_tmp hd1) 40 (wcells cs).toArray h5 (by simp only [List.size_toArray, wcells_len, HML.out]; kernel_rfl) (by simp only [List.size_toArray, wcells_len, HML.out, h4]) (wcells_one _) (hK _ _ ⟨g1, h1, h2, h3, ⟨cs, h4, h5⟩, rfl⟩ rfl)
              trivial
            · show EndHold _ _ _ _ _ _ _
              intro v6
              refine end_all (xs := [_, _, _, _, _, _, _]) ⟨rfl, rfl, rfl, rfl, rfl, rfl, rfl, trivial⟩ ?_
              rintro w5 hR1 ⟨-, hNew⟩
              refine ⟨?_⟩
              rintro ⟨wm_w5, hRm, hP_w5⟩
              have hG_w5 : Grew wr wm_w5 := (Grew.drew _).trans hRm
              clear hRm
              simp only [Act.put, List.setIfInBounds_toArray, List.set_cons_succ, List.set_cons_zero, dropN, putEach]
              obtain ⟨g7, hv7, hb7a, hb7n, ⟨cs7, hcs7, hbl7⟩, rfl⟩ := hP_w5
              have hv7' : v6 = .pointer (some ⟨g7, 0, none⟩) := hv7
              clear hNew hv7
              subst hv7'
              have hb7 := hbl7.setRow (wcells M)
              have hbs := (HS.out.grew hG_w5).farRow (Ne.symm hb7n) (wcells M).toArray
              have hg5 := Grew.setRow (Grew.trans HG.out hG_w5) hb7a (wcells M).toArray
              obtain ⟨w6, hw6⟩ : ∃ w6, w6 = wm_w5.setRow g7 (wcells M).toArray := ⟨_, rfl⟩
              rw [← hw6] at hb7 hbs hg5 ⊢
              have HB7 := Lib.hid hb7
              have HBS := Lib.hid hbs
              have HG5 := Lib.hid hg5
              clear hbl7 hb7 hbs hg5 hw6 hR1 hb7n hb7a
              go_wp2_with (first
                | refine wpList_load_mid (by rfl) 40 (.tmp 6) (by rfl) g7 0 (by rfl) (wcells M) _ (Blk.range0 HB7.out) Try.underlying40 (by rfl) (by rw [wcells_len, HML.out]; kernel_rfl) ?_
                | refine wpList_store_blk (c := wcells M) HBS.out (by rfl) 40 (.tmp 4) (.tmp 44) (by rfl) (by rfl) (by rfl) (by rw [wcells_len, HML.out]; kernel_rfl) (by rw [wcells_len, wcells_len, HSL.out, HML.out]) (wcells_one _) ?_)
              go_roundw
              case rel => exact ⟨j + 1, m2, A2, c2, rfl, HMJ.out, hmc2, HC2.out, by rw [HNext.out]; exact HBS.out.setRow _, Grew.setRow HG5.out hgl _⟩
              case measure => simp [sliceLen]; omega
            --A}
          · have hmr : mr = 0 := by have := HMJ0.out; omega
            subst hmr
            have d1 : decide (64 ≤ 0) = false := rfl
            have d1' : decide (64 ≤ ((0 : Nat) : Int)) = false := rfl
            obtain ⟨SF, hSF⟩ : ∃ SF, SF = after kL s0L T j := ⟨_, rfl⟩
            have hsl : SF.length = 8 := by rw [hSF]; exact after_len s0L_len _
            have hsw : words SF := by rw [hSF]; exact after_words s0L_words _
            have hout : shaL l = outL SF := by
              unfold shaL
              rw [hSF, HTF.out]
              congr 2
              rw [← HTF.out, ← HM.out]
              omega
            rw [← hSF] at hs2
            have HSF := Lib.hid hsl
            have HSW := Lib.hid hsw
            have HBS := Lib.hid hs2
            have HG := Lib.hid hg2
            obtain ⟨D, hD⟩ : ∃ D, D = strOfNums (outL SF) := ⟨_, rfl⟩
            have hds : D.size = 32 := by rw [hD, strOfNums_size, outL_len, hsl]
            have HSUM := Lib.hid (fun wx (h : Grew w wx) => sum1_c wx A c n l (Kd.C_below HR.out h) HN.out.symm hc (by omega) hb.out)
            rw [hout, ← hD] at HSUM
            have HD := Lib.hid hD
            clear hs2 hg2 hsl hsw hout hSF hD hC
            go_wp2_with fail
            refine (HSUM.out wr (Grew.trans HG3.out HG.out)).mono ?_
            rintro e w7 ⟨_, rfl, rfl, hg7⟩
            have hgw7 := Grew.trans HG.out hg7
            have hb7 := HBS.out.grew hg7
            go_wp2_with fail
            go_loopw [9] (fun iv wq => ∃ i : Nat, iv = .int .i64 (i : Int) ∧ i ≤ 8 ∧ Blk wq gs 40 (wcells SF) ∧ Grew w3 wq) (fun iv _ => 8 - (intOf iv).toNat)
            case atStart => exact ⟨0, rfl, by omega, hb7, hgw7⟩
            case round =>
              obtain ⟨t, rfl, ht, hs3, hg8⟩ := hrel
              clear hb7 hgw7
              by_cases hlt : t < 8
              · have d1 : decide ((t : Int) < 8) = true := decide_eq_true (by omega)
                have i8 : (t : Int) < 8 := by omega
                obtain ⟨n0, hn0⟩ : ∃ n, n = 4 * t := ⟨_, rfl⟩
                obtain ⟨n1, hn1⟩ : ∃ n, n = 4 * t + 1 := ⟨_, rfl⟩
                obtain ⟨n2, hn2⟩ : ∃ n, n = 4 * t + 2 := ⟨_, rfl⟩
                obtain ⟨n3, hn3⟩ : ∃ n, n = 4 * t + 3 := ⟨_, rfl⟩
                have e0 : IntKind.i64.wrap (4 * (t : Int)) = (n0 : Int) := by rw [IntWalk.i64_in _ (by omega)]; omega
                have e1 : IntKind.i64.wrap ((n0 : Int) + 1) = (n1 : Int) := by rw [IntWalk.i64_in _ (by omega)]; omega
                have e2 : IntKind.i64.wrap ((n0 : Int) + 2) = (n2 : Int) := by rw [IntWalk.i64_in _ (by omega)]; omega
                have e3 : IntKind.i64.wrap ((n0 : Int) + 3) = (n3 : Int) := by rw [IntWalk.i64_in _ (by omega)]; omega
                obtain ⟨y, hy⟩ : ∃ y, y = SF.getD t 0 := ⟨_, rfl⟩
                have hyw : y < 4294967296 := by
                  rw [hy, List.getD_eq_getElem?_getD, List.getElem?_eq_getElem (by rw [HSF.out]; exact hlt)]
                  exact HSW.out _ (List.getElem_mem _)
                have hob : ∀ z ∈ outL SF, 0 ≤ z ∧ z < 256 := outL_bytes SF
                have hw4 := fun (k : Nat) (hk : k < 4) => outL_get SF t k (by rw [HSF.out]; exact hlt) hk
                rw [← hy] at hw4
                have I0 := str_ix (outL SF) n0 (y / 16777216 % 256) hob (by rw [hn0]; exact hw4 0 (by omega))
                have I1 := str_ix (outL SF) n1 (y / 65536 % 256) hob (by rw [hn1]; exact hw4 1 (by omega))
                have I2 := str_ix (outL SF) n2 (y / 256 % 256) hob (by rw [hn2]; exact hw4 2 (by omega))
                have I3 := str_ix (outL SF) n3 (y % 256) hob (by rw [hn3]; exact hw4 3 (by omega))
                rw [← HD.out] at I0 I1 I2 I3
                obtain ⟨v0, hv0⟩ : ∃ v, v = y / 16777216 % 256 := ⟨_, rfl⟩
                obtain ⟨v1, hv1⟩ : ∃ v, v = y / 65536 % 256 := ⟨_, rfl⟩
                obtain ⟨v2, hv2⟩ : ∃ v, v = y / 256 % 256 := ⟨_, rfl⟩
                obtain ⟨v3, hv3⟩ : ∃ v, v = y % 256 := ⟨_, rfl⟩
                rw [← hv0] at I0
                rw [← hv1] at I1
                rw [← hv2] at I2
                rw [← hv3] at I3
                have k0 : v0 < 256 := by omega
                have k1 : v1 < 256 := by omega
                have k2 : v2 < 256 := by omega
                have k3 : v3 < 256 := by omega
                have hbe : v0 * 16777216 + v1 * 65536 + v2 * 256 + v3 = y := by omega
                obtain ⟨p0, hp0⟩ : ∃ p, p = v0 * 16777216 := ⟨_, rfl⟩
                obtain ⟨p1, hp1⟩ : ∃ p, p = v1 * 65536 := ⟨_, rfl⟩
                obtain ⟨p2, hp2⟩ : ∃ p, p = v2 * 256 := ⟨_, rfl⟩
                have g0 : IntKind.u32.wrap ((v0 : Int) * 16777216) = (p0 : Int) := by rw [IntWalk.u32_in _ (by omega)]; omega
                have g1 : IntKind.u32.wrap ((v1 : Int) * 65536) = (p1 : Int) := by rw [IntWalk.u32_in _ (by omega)]; omega
                have g2 : IntKind.u32.wrap ((v2 : Int) * 256) = (p2 : Int) := by rw [IntWalk.u32_in _ (by omega)]; omega
                obtain ⟨q1, hq1⟩ : ∃ q, q = p0 + p1 := ⟨_, rfl⟩
                obtain ⟨q2, hq2⟩ : ∃ q, q = q1 + p2 := ⟨_, rfl⟩
                have s1 : IntKind.u32.wrap ((p0 : Int) + (p1 : Int)) = (q1 : Int) := by rw [IntWalk.u32_in _ (by omega)]; omega
                have s2 : IntKind.u32.wrap ((q1 : Int) + (p2 : Int)) = (q2 : Int) := by rw [IntWalk.u32_in _ (by omega)]; omega
                have s3 : IntKind.u32.wrap ((q2 : Int) + (v3 : Int)) = (y : Int) := by rw [IntWalk.u32_in _ (by omega)]; omega
                have s1' : (p0 : Int) + (p1 : Int) = (q1 : Int) := by omega
                have s2' : (q1 : Int) + (p2 : Int) = (q2 : Int) := by omega
                have s3' : (q2 : Int) + (v3 : Int) = (y : Int) := by omega
                have g0' : (v0 : Int) * 16777216 = (p0 : Int) := by omega
                have g1' : (v1 : Int) * 65536 = (p1 : Int) := by omega
                have g2' : (v2 : Int) * 256 = (p2 : Int) := by omega
                have HB3 := Lib.hid (show ∀ wx, Grew wr wx → wx.cell? ⟨gs, t, none⟩ = some (.int .u32 (y : Int)) from fun wx h => by
                  rw [(hs3.grew h).at_, cells_get _ _ (by rw [HSF.out]; exact hlt), ← hy])
                have HS3 := Lib.hid hs3
                have HG8 := Lib.hid hg8
                clear hs3 hg8 hob hw4 hbe hp0 hp1 hp2 hq1 hq2 hv0 hv1 hv2 hv3 hn0 hn1 hn2 hn3 hy
                go_wp2_with fail
                apply region_grew [Is _, Is _, Is _, Is _, Is _, Is _, Is _, Is _, Is _, Is _, Is _, Is _, Is _, Is _, Is _, Is _, Is _, Is _, Is _, Is _, Is _, Is _, Is _, Is _, Is _, Is _, Is _, Is _, Is _, Is _, Is _, Is _] [([(8, none)], none), ([(9, none)], none), ([(62, some 1)], none), ([(61, some 0), (63, some 2)], none), ([(64, some 3)], none), ([(65, some 4)], none), ([(8, none)], none), ([(9, none)], none), ([(68, some 7)], none), ([(69, some 8)], none), ([(67, some 6), (70, some 9)], none), ([(71, some 10)], none), ([(72, some 11)], none), ([(66, some 5), (73, some 12)], none), ([(8, none)], none), ([(9, none)], none), ([(76, some 15)], none), ([(77, some 16)], none), ([(75, some 14), (78, some 17)], none), ([(79, some 18)], none), ([(80, some 19)], none), ([(74, some 13), (81, some 20)], none), ([(8, none)], none), ([(9, none)], none), ([(84, some 23)], none), ([(85, some 24)], none), ([(83, some 22), (86, some 25)], none), ([(87, some 26)], none), ([(82, some 21), (88, some 27)], none), ([(9, none)], none), ([(4, none), (90, some 29)], none), ([(91, some 30)], none)] [(61, 0), (62, 1), (63, 2), (64, 3), (65, 4), (66, 5), (67, 6), (68, 7), (69, 8), (70, 9), (71, 10), (72, 11), (73, 12), (74, 13), (75, 14), (76, 15), (77, 16), (78, 17), (79, 18), (80, 19), (81, 20), (82, 21), (83, 22), (84, 23), (85, 24), (86, 25), (87, 26), (88, 27), (89, 28), (90, 29), (91, 30), (92, 31)] rfl (by kernel_rfl) (by kernel_rfl) (show Stable Grew _ from ⟨Is.stable _, Is.stable _, Is.stable _, Is.stable _, Is.stable _, Is.stable _, Is.stable _, Is.stable _, Is.stable _, Is.stable _, Is.stable _, Is.stable _, Is.stable _, Is.stable _, Is.stable _, Is.stable _, Is.stable _, Is.stable _, Is.stable _, Is.stable _, Is.stable _, Is.stable _, Is.stable _, Is.stable _, Is.stable _, Is.stable _, Is.stable _, Is.stable _, Is.stable _, Is.stable _, Is.stable _, Is.stable _, trivial⟩)
                · show OpsHold _ _ _ _ _ _ _ _ _
                  refine ⟨fun a_ wx hR hD K hK => ?_, ?_⟩
                  · have hG : Grew wr wx := (Grew.drew _).trans hR
                    simp [Deps, Dep, at_, Is] at hD
                    go_simp
                    exact hK _ _ (Grew.refl _) rfl
                  refine ⟨fun a_ wx hR hD K hK => ?_, ?_⟩
                  · have hG : Grew wr wx := (Grew.drew _).trans hR
                    simp [Deps, Dep, at_, Is] at hD
                    go_simp
                    exact hK _ _ (Grew.refl _) rfl
                  refine ⟨fun a_ wx hR hD K hK => ?_, ?_⟩
                  · have hG : Grew wr wx := (Grew.drew _).trans hR
                    simp [Deps, Dep, at_, Is] at hD
                    go_simp
                    exact hK _ _ (Grew.refl _) rfl
                  refine ⟨fun a_ wx hR hD K hK => ?_, ?_⟩
                  · have hG : Grew wr wx := (Grew.drew _).trans hR
                    simp [Deps, Dep, at_, Is] at hD
                    obtain ⟨hd0, hd1⟩ := hD
                    go_simp
                    exact hK _ _ (Grew.refl _) rfl
                  refine ⟨fun a_ wx hR hD K hK => ?_, ?_⟩
                  · have hG : Grew wr wx := (Grew.drew _).trans hR
                    simp [Deps, Dep, at_, Is] at hD
                    go_simp
                    exact hK _ _ (Grew.refl _) rfl
                  refine ⟨fun a_ wx hR hD K hK => ?_, ?_⟩
                  · have hG : Grew wr wx := (Grew.drew _).trans hR
                    simp [Deps, Dep, at_, Is] at hD
                    go_simp
                    exact hK _ _ (Grew.refl _) rfl
                  refine ⟨fun a_ wx hR hD K hK => ?_, ?_⟩
                  · have hG : Grew wr wx := (Grew.drew _).trans hR
                    simp [Deps, Dep, at_, Is] at hD
                    go_simp
                    exact hK _ _ (Grew.refl _) rfl
                  refine ⟨fun a_ wx hR hD K hK => ?_, ?_⟩
                  · have hG : Grew wr wx := (Grew.drew _).trans hR
                    simp [Deps, Dep, at_, Is] at hD
                    go_simp
                    exact hK _ _ (Grew.refl _) rfl
                  refine ⟨fun a_ wx hR hD K hK => ?_, ?_⟩
                  · have hG : Grew wr wx := (Grew.drew _).trans hR
                    simp [Deps, Dep, at_, Is] at hD
                    go_simp
                    exact hK _ _ (Grew.refl _) rfl
                  refine ⟨fun a_ wx hR hD K hK => ?_, ?_⟩
                  · have hG : Grew wr wx := (Grew.drew _).trans hR
                    simp [Deps, Dep, at_, Is] at hD
                    go_simp
                    exact hK _ _ (Grew.refl _) rfl
                  refine ⟨fun a_ wx hR hD K hK => ?_, ?_⟩
                  · have hG : Grew wr wx := (Grew.drew _).trans hR
                    simp [Deps, Dep, at_, Is] at hD
                    obtain ⟨hd0, hd1⟩ := hD
                    go_simp
                    exact hK _ _ (Grew.refl _) rfl
                  refine ⟨fun a_ wx hR hD K hK => ?_, ?_⟩
                  · have hG : Grew wr wx := (Grew.drew _).trans hR
                    simp [Deps, Dep, at_, Is] at hD
                    go_simp
                    exact hK _ _ (Grew.refl _) rfl
                  refine ⟨fun a_ wx hR hD K hK => ?_, ?_⟩
                  · have hG : Grew wr wx := (Grew.drew _).trans hR
                    simp [Deps, Dep, at_, Is] at hD
                    go_simp
                    exact hK _ _ (Grew.refl _) rfl
                  refine ⟨fun a_ wx hR hD K hK => ?_, ?_⟩
                  · have hG : Grew wr wx := (Grew.drew _).trans hR
                    simp [Deps, Dep, at_, Is] at hD
                    obtain ⟨hd0, hd1⟩ := hD
                    go_simp
                    exact hK _ _ (Grew.refl _) rfl
                  refine ⟨fun a_ wx hR hD K hK => ?_, ?_⟩
                  · have hG : Grew wr wx := (Grew.drew _).trans hR
                    simp [Deps, Dep, at_, Is] at hD
                    go_simp
                    exact hK _ _ (Grew.refl _) rfl
                  refine ⟨fun a_ wx hR hD K hK => ?_, ?_⟩
                  · have hG : Grew wr wx := (Grew.drew _).trans hR
                    simp [Deps, Dep, at_, Is] at hD
                    go_simp
                    exact hK _ _ (Grew.refl _) rfl
                  refine ⟨fun a_ wx hR hD K hK => ?_, ?_⟩
                  · have hG : Grew wr wx := (Grew.drew _).trans hR
                    simp [Deps, Dep, at_, Is] at hD
                    go_simp
                    exact hK _ _ (Grew.refl _) rfl
                  refine ⟨fun a_ wx hR hD K hK => ?_, ?_⟩
                  · have hG : Grew wr wx := (Grew.drew _).trans hR
                    simp [Deps, Dep, at_, Is] at hD
                    go_simp
                    exact hK _ _ (Grew.refl _) rfl
                  refine ⟨fun a_ wx hR hD K hK => ?_, ?_⟩
                  · have hG : Grew wr wx := (Grew.drew _).trans hR
                    simp [Deps, Dep, at_, Is] at hD
                    obtain ⟨hd0, hd1⟩ := hD
                    go_simp
                    exact hK _ _ (Grew.refl _) rfl
                  refine ⟨fun a_ wx hR hD K hK => ?_, ?_⟩
                  · have hG : Grew wr wx := (Grew.drew _).trans hR
                    simp [Deps, Dep, at_, Is] at hD
                    go_simp
                    exact hK _ _ (Grew.refl _) rfl
                  refine ⟨fun a_ wx hR hD K hK => ?_, ?_⟩
                  · have hG : Grew wr wx := (Grew.drew _).trans hR
                    simp [Deps, Dep, at_, Is] at hD
                    go_simp
                    exact hK _ _ (Grew.refl _) rfl
                  refine ⟨fun a_ wx hR hD K hK => ?_, ?_⟩
                  · have hG : Grew wr wx := (Grew.drew _).trans hR
                    simp [Deps, Dep, at_, Is] at hD
                    obtain ⟨hd0, hd1⟩ := hD
                    go_simp
                    exact hK _ _ (Grew.refl _) rfl
                  refine ⟨fun a_ wx hR hD K hK => ?_, ?_⟩
                  · have hG : Grew wr wx := (Grew.drew _).trans hR
                    simp [Deps, Dep, at_, Is] at hD
                    go_simp
                    exact hK _ _ (Grew.refl _) rfl
                  refine ⟨fun a_ wx hR hD K hK => ?_, ?_⟩
                  · have hG : Grew wr wx := (Grew.drew _).trans hR
                    simp [Deps, Dep, at_, Is] at hD
                    go_simp
                    exact hK _ _ (Grew.refl _) rfl
                  refine ⟨fun a_ wx hR hD K hK => ?_, ?_⟩
                  · have hG : Grew wr wx := (Grew.drew _).trans hR
                    simp [Deps, Dep, at_, Is] at hD
                    go_simp
                    exact hK _ _ (Grew.refl _) rfl
                  refine ⟨fun a_ wx hR hD K hK => ?_, ?_⟩
                  · have hG : Grew wr wx := (Grew.drew _).trans hR
                    simp [Deps, Dep, at_, Is] at hD
                    go_simp
                    exact hK _ _ (Grew.refl _) rfl
                  refine ⟨fun a_ wx hR hD K hK => ?_, ?_⟩
                  · have hG : Grew wr wx := (Grew.drew _).trans hR
                    simp [Deps, Dep, at_, Is] at hD
                    obtain ⟨hd0, hd1⟩ := hD
                    go_simp
                    exact hK _ _ (Grew.refl _) rfl
                  refine ⟨fun a_ wx hR hD K hK => ?_, ?_⟩
                  · have hG : Grew wr wx := (Grew.drew _).trans hR
                    simp [Deps, Dep, at_, Is] at hD
                    go_simp
                    exact hK _ _ (Grew.refl _) rfl
                  refine ⟨fun a_ wx hR hD K hK => ?_, ?_⟩
                  · have hG : Grew wr wx := (Grew.drew _).trans hR
                    simp [Deps, Dep, at_, Is] at hD
                    obtain ⟨hd0, hd1⟩ := hD
                    go_simp
                    exact hK _ _ (Grew.refl _) rfl
                  refine ⟨fun a_ wx hR hD K hK => ?_, ?_⟩
                  · have hG : Grew wr wx := (Grew.drew _).trans hR
                    simp [Deps, Dep, at_, Is] at hD
                    go_simp
                    exact hK _ _ (Grew.refl _) rfl
                  refine ⟨fun a_ wx hR hD K hK => ?_, ?_⟩
                  · have hG : Grew wr wx := (Grew.drew _).trans hR
                    simp [Deps, Dep, at_, Is] at hD
                    obtain ⟨hd0, hd1⟩ := hD
                    go_simp
                    exact hK _ _ (Grew.refl _) rfl
                  refine ⟨fun a_ wx hR hD K hK => ?_, ?_⟩
                  · have hG : Grew wr wx := (Grew.drew _).trans hR
                    simp [Deps, Dep, at_, Is] at hD
                    have e_ := HB3.out wx hG
                    go_simp
                    exact hK _ _ (Grew.refl _) rfl
                  trivial
                · show EndHold _ _ _ _ _ _ _
                  refine end_all (xs := [_, _, _, _, _, _, _, _, _, _, _, _, _, _, _, _, _, _, _, _, _, _, _, _, _, _, _, _, _, _, _, _]) ⟨rfl, rfl, rfl, rfl, rfl, rfl, rfl, rfl, rfl, rfl, rfl, rfl, rfl, rfl, rfl, rfl, rfl, rfl, rfl, rfl, rfl, rfl, rfl, rfl, rfl, rfl, rfl, rfl, rfl, rfl, rfl, rfl, trivial⟩ ?_
                  rintro w8 hR1 -
                  refine ⟨?_⟩
                  have hG_w8 : Grew wr w8 := (Grew.drew _).trans hR1
                  clear hR1
                  simp only [Act.put, List.setIfInBounds_toArray, List.set_cons_succ, List.set_cons_zero, dropN, putEach]
                  go_wp2_with fail
                  go_roundw
                  case rel => exact ⟨t + 1, by go_num, by omega, HS3.out.grew hG_w8, Grew.trans HG8.out hG_w8⟩
                  case measure => simp [intOf]; omega
              · have d1 : decide ((t : Int) < 8) = false := decide_eq_false (by omega)
                clear hs3
                go_wp2_with fail
                refine (lives_c _).mono ?_
                rintro e w9 ⟨_, rfl, rfl, hg9⟩
                go_wp2_with fail
                go_ret
                exact ⟨_, rfl, rfl, Grew.trans HG3.out (Grew.trans hg8 hg9)⟩
end Go.Proofs.Ytphkohdfdkmpcaa.F

-- WSized
-- PRINTED BY print.sh 35421559b90ae4d0a3588c463048766b98c2df88dd9212a6774a882060cdf62d: not written by this session
-- PRINTED WORDS (module Derived/Print/Sized.lean): go-gate-2's, for the rows of laws over slices: an AI agent of Go's test side, Tue Nov 17 2026; no person has read it. Lean checks it.
namespace Go.Proofs.YtphkohdfdkmpcaaW.PrintWords
open Go.ChangeShapes Go.WideShapes
/-- A row's slice of whole numbers is no longer than its weight allows. -/
theorem sized_ints {H : Type} {enc : TypeId × Value → H} {P : Program} {W : World} {base : Nat} {spare : Nat → Bool} {held : Bool} {t e : TypeId} {k : IntKind} {a : Option Addr} {len cap : Nat} {d : DataW H} {ps : List MemPlace} {ts : List TypeId} {ds : List (DataW H)} {j : Nat}
    (hsz : (DataW.weightsEach P ts ds).all (· ≤ reachBytes) = true) (ht : ts[j]? = some t) (hd : ds[j]? = some d) (hu : P.underlying t = some (.slice e)) (he : P.underlying e = some (.int k)) (hc : P.cellsOf e = 1) {B : Nat} (hB : P.bytesOf e = B)
    (h : DataW.Trod enc P W base spare held t (.slice a len cap) d ps) : len * B ≤ 140737488351232 := by
  obtain ⟨fuel, hf⟩ := h
  rcases open_ints hu he hc hf with ⟨hcs, _⟩ | ⟨x, l, c, zs, hcs, _, hl, _, hz, hx, _, _⟩
  · simp [Value.cells] at hcs
    obtain ⟨rfl, rfl, rfl⟩ := hcs
    simp
  · simp [Value.cells] at hcs
    obtain ⟨rfl, rfl, rfl⟩ := hcs
    obtain ⟨hx, _⟩ := Prod.mk.inj hx
    subst hx
    have z := sized_slice hsz ht hd hu
    rw [hB] at z
    have hl2 : len ≤ zs.length := by
      rw [hz]
      split
      · exact hl
      · exact Nat.le_refl _
    have h1 : (lits (H := H) k (zs.take len)).length + (lits (H := H) k (zs.drop len)).length = zs.length := by
      simp [lits]
      omega
    rw [h1] at z
    exact Nat.le_trans (Nat.mul_le_mul_right _ hl2) z
end Go.Proofs.YtphkohdfdkmpcaaW.PrintWords

-- RowShaWhole
namespace Go.Proofs.Ytphkohdfdkmpcaa.shaWhole
open Go.ChangeShapes Go.WideShapes Go.ChangeAt Go.RowKit
open Go.ChangeMaps (open_string shut_string)
set_option linter.unusedVariables false
set_option linter.unusedSimpArgs false
theorem own : ownKnob Try.prog.godebug = none := by kernel_rfl
theorem laidOut : laidOutB Try.prog = true := by kernel_rfl
def IsRow (k : IntKind) (w : World) (a : Option Addr) (len cap : Nat) (zs : List Int) : Prop :=
  (a = none ∧ len = 0 ∧ cap = 0 ∧ zs = []) ∨
  ∃ x, a = some x ∧ len ≤ cap ∧ cap ≤ maxLen ∧ zs.length = cap ∧ (∀ i, i < zs.length → w.cell? (x.add i) = some (.int k (zs.getD i 0))) ∧ ∀ n ∈ zs, (Lit.int k n).wf = true
set_option maxRecDepth 100000 in
theorem lifted (os : Os) (started : os.Started) (H : Type) (enc : TypeId × Value → H) :
    ReturnsInHanded {} Try.checked os 10 .any (Rows.shaWholeSpec.pre6 enc Try.prog Try.f10 Rows.shaWholeRow.domain false) (Rows.shaWholeSpec.post enc Try.prog Try.f10 false true false false) := by
  refine returnsInHanded_of_change_sized (C := Try.checked) own started (by kernel_rfl) Try.func10
    (ChangeSpec.witness6 (enc := enc) (C := Try.checked) false ⟨#[], #[.slice none 0 0], []⟩ 8 (by kernel_rfl) (by kernel_rfl) (by kernel_rfl) (by kernel_rfl)) ?_
  intro W base args ds gs before hval0 hW hcnd hsz0 _
  have hsz : (DataW.weightsEach Try.prog (Try.f10.params.toList ++ Rows.shaWholeSpec.plain.varTypes Try.prog) (ds ++ gs)).all (· ≤ reachBytes) = true := hsz0
  have hval : ∀ (j : Nat) t v, Try.f10.params[j]? = some t → args[j]? = some v → Value.okWide Try.prog W .any base t v := hval0
  have hW' := hW
  obtain ⟨p, q, hA0, hV, rfl, hfz, hnd⟩ := hW
  have hA : DataW.TrodAll enc Try.prog W 0 (fun _ => true) true Try.f10.params.toList args.toList ds p := hA0
  rw [Try.params10] at hA hval hsz
  obtain ⟨v0, vs0, d0, ds0, p0, q0, hargs, rfl, rfl, h0, r0⟩ := trodAll_cons hA
  obtain ⟨rfl, rfl, rfl⟩ := trodAll_nil r0
  obtain rfl : args = #[v0] := by cases args; simp_all
  obtain ⟨rfl, rfl⟩ := trodVars_none hV
  obtain ⟨a0, len0, cap0, rfl⟩ := okWide_slice Try.underlying28 (hval 0 28 v0 rfl rfl)
  have k0 := h0
  have lt0 : ∀ x ∈ p0, x.block < W.heap.size := by obtain ⟨m, hm⟩ := k0; exact DataW.trod_lt m _ _ _ hm
  obtain ⟨z0, w0⟩ : ∃ zs, IsRow .u8 W a0 len0 cap0 zs := by
    obtain ⟨fuel, hf⟩ := h0
    rcases open_ints Try.underlying28 Try.underlying5 (by kernel_rfl) hf with ⟨hcs, _⟩ | ⟨x, l, c, zs, hcs, _, hl, hm, hz, _, hcell, hwz⟩
    · simp [Value.cells] at hcs
      obtain ⟨rfl, rfl, rfl⟩ := hcs
      exact ⟨[], .inl ⟨rfl, rfl, rfl, rfl⟩⟩
    · simp [Value.cells] at hcs
      obtain ⟨rfl, rfl, rfl⟩ := hcs
      exact ⟨zs, .inr ⟨_, rfl, hl, hm, by simpa using hz, hcell, hwz⟩⟩
  have y0 : len0 * 1 ≤ 140737488351232 := Go.Proofs.YtphkohdfdkmpcaaW.PrintWords.sized_ints hsz (j := 0) (t := 28) rfl rfl Try.underlying28 Try.underlying5 (by kernel_rfl) (by kernel_rfl) h0
  obtain ⟨l0, rfl, hr0, hm0, hw0, hc0⟩ := Go.Proofs.YtphkohdfdkmpcaaW.PrintWords.ReadsInt.ofRowC w0
  clear hA0 hval0 hsz0 hsz
  refine (Go.Proofs.YtphkohdfdkmpcaaR.is_tells (Go.Proofs.Ytphkohdfdkmpcaa.F.ShaWhole_c W a0 cap0 l0 (Go.Proofs.YtphkohdfdkmpcaaW.PrintWords.Kd.C_of_reads (d := (0 : Int)) (h1 := fun _ => rfl) hr0) hc0 hm0 y0 hw0)).mono fun e W' ⟨he, bel⟩ => ?_
  subst he
  exact ⟨_, rfl, _, _, _, [], _, [], hW', trodAll_mk1 (shut_bool Try.underlying4 _), (trodAll_cons_mk (Below.trod laidOut (by kernel_rfl) (of_decide_eq_true (by kernel_rfl)) k0 bel lt0) trodAll_mk0), rfl, bel.frame _, fun h => by cases h⟩
theorem over : Rows.shaWholeRow.holds Try.pinned (OpenSpec.ofChange Rows.shaWholeSpec) :=
  OpenClaim.holds_of_wide 10 Try.f10 rfl rfl rfl rfl rfl rfl rfl ⟨rfl, rfl, rfl, rfl, rfl⟩ rfl rfl rfl rfl rfl (by kernel_rfl) Try.func10 (by kernel_rfl)
    (of_decide_eq_true (by kernel_rfl)) (by unfold Func.isWrapper; first | (rw [if_pos (by decide +kernel)]; kernel_rfl) | (rw [if_neg (by decide +kernel)]; exact ⟨rfl, rfl⟩))
    (fun os started H enc _ => lifted os started H enc)
end Go.Proofs.Ytphkohdfdkmpcaa.shaWhole
namespace Go.Proofs.Ytphkohdfdkmpcaa
/-- The row, under a short name, for the claim. -/
theorem shaWhole_holds : Rows.ShaWholeSaid := shaWhole.over
#print axioms shaWhole_holds
end Go.Proofs.Ytphkohdfdkmpcaa
