/- The row of the law ShaMixes: for every input the law's call returns true, whatever memory; no condition. Out of the contract ShaMixes_c. -/
import Derived.Test.YtphkohdfdkmpcaaSC
import Derived.DeepKeys
import Derived.Test.YtphkohdfdkmpcaaRows
import Derived.WalkKit
import Derived.ProofKit
import Derived.OpenShut
import Derived.ShutString
import Derived.ChangeOld
import Derived.Below
import Derived.SizedLaws
import Derived.Test.YtphkohdfdkmpcaaWSized
import Derived.Lib.SmallJoins

-- ShaMixes
namespace Go.Proofs.YtphkohdfdkmpcaaO
set_option linter.unusedSimpArgs false
open Go Go.RowKit Go.ChangeShapes Go.WideShapes Go.ChangeAt Go.Proofs.YtphkohdfdkmpcaaW.PrintWords
theorem arr8 {α : Type} {d : Kd α} {hs : 0 < d.sz} (h1 : d.sz = 1) {W : World} {x : List α} {cs : Array Value} (h : (Kd.arr 8 d hs).K W x cs.toList) : ∃ a0 a1 a2 a3 a4 a5 a6 a7 c0 c1 c2 c3 c4 c5 c6 c7, x = [a0, a1, a2, a3, a4, a5, a6, a7] ∧ cs = #[c0, c1, c2, c3, c4, c5, c6, c7] ∧ d.K W a0 [c0] ∧ d.K W a1 [c1] ∧ d.K W a2 [c2] ∧ d.K W a3 [c3] ∧ d.K W a4 [c4] ∧ d.K W a5 [c5] ∧ d.K W a6 [c6] ∧ d.K W a7 [c7] := by
  obtain ⟨hl, hc, hr⟩ := h
  rw [hl, h1] at hc
  obtain ⟨l⟩ := cs
  match x, hl, l, hc, hr with
  | [a0, a1, a2, a3, a4, a5, a6, a7], _, [c0, c1, c2, c3, c4, c5, c6, c7], _, hr => exact ⟨a0, a1, a2, a3, a4, a5, a6, a7, c0, c1, c2, c3, c4, c5, c6, c7, rfl, rfl, by have := hr 0 a0 rfl; rw [h1] at this; exact this, by have := hr 1 a1 rfl; rw [h1] at this; exact this, by have := hr 2 a2 rfl; rw [h1] at this; exact this, by have := hr 3 a3 rfl; rw [h1] at this; exact this, by have := hr 4 a4 rfl; rw [h1] at this; exact this, by have := hr 5 a5 rfl; rw [h1] at this; exact this, by have := hr 6 a6 rfl; rw [h1] at this; exact this, by have := hr 7 a7 rfl; rw [h1] at this; exact this⟩
end Go.Proofs.YtphkohdfdkmpcaaO
namespace Go.Proofs.Ytphkohdfdkmpcaa.F
open Go Go.RowKit Go.Proofs.YtphkohdfdkmpcaaW.PrintWords Go.Proofs.YtphkohdfdkmpcaaW.PrintLast Go.Proofs.YtphkohdfdkmpcaaW.PrintMore Go.Proofs.YtphkohdfdkmpcaaR
attribute [local go_sem] max2_int min2_int max_two min_two
set_option linter.unusedSimpArgs false
set_option linter.unusedVariables false
set_option maxRecDepth 100000
theorem wf8 {l : List Int} (h : ∀ x ∈ l, (Lit.int .u8 x).wf = true) : ∀ x ∈ l, 0 ≤ x ∧ x < 256 := fun x hx => by
  have := h x hx
  simp [Lit.wf, IntKind.min, IntKind.max, IntKind.bits, IntKind.signed] at this
  omega
theorem wf32 {x : Int} (h : (Lit.int .u32 x).wf = true) : ∃ n : Nat, x = (n : Int) ∧ n < 4294967296 := by
  simp [Lit.wf, IntKind.min, IntKind.max, IntKind.bits, IntKind.signed] at h
  exact ⟨x.toNat, by omega, by omega⟩
theorem kl (n : Nat) (h : n < 4294967296) : Try.prog.keyLits 9 22 [.int .u32 (n : Int)] = some [.int .u32 (n : Int)] := by
  have hw : (Lit.int .u32 (n : Int)).wf = true := by
    simp [Lit.wf, IntKind.min, IntKind.max, IntKind.bits, IntKind.signed]; omega
  show (if IntKind.u32 = IntKind.u32 ∧ (Lit.int .u32 (n : Int)).wf = true then some [Lit.int .u32 (n : Int)] else none) = _
  rw [if_pos ⟨rfl, hw⟩]
theorem kl8 (m0 m1 m2 m3 m4 m5 m6 m7 : Nat) (h0 : m0 < 4294967296) (h1 : m1 < 4294967296) (h2 : m2 < 4294967296) (h3 : m3 < 4294967296) (h4 : m4 < 4294967296) (h5 : m5 < 4294967296) (h6 : m6 < 4294967296) (h7 : m7 < 4294967296) :
    Try.prog.keyLits 10 40 (Value.agg (wcells [m0, m1, m2, m3, m4, m5, m6, m7]).toArray).cells.toList = some [.int .u32 (m0 : Int), .int .u32 (m1 : Int), .int .u32 (m2 : Int), .int .u32 (m3 : Int), .int .u32 (m4 : Int), .int .u32 (m5 : Int), .int .u32 (m6 : Int), .int .u32 (m7 : Int)] := by
  show (if (8 : Nat) = 8 then ((List.range 8).mapM fun i => Try.prog.keyLits 9 22 (((wcells [m0, m1, m2, m3, m4, m5, m6, m7]).drop (i * 1)).take 1)).map List.flatten else none) = _
  rw [if_pos rfl, show List.range 8 = [0, 1, 2, 3, 4, 5, 6, 7] from rfl]
  simp only [List.mapM_cons, List.mapM_nil]
  simp only [wcells, List.map_cons, List.map_nil, Nat.zero_mul, Nat.one_mul, Nat.mul_one, List.drop_zero, List.drop_succ_cons, List.take_succ_cons, List.take_zero, kl _ h0, kl _ h1, kl _ h2, kl _ h3, kl _ h4, kl _ h5, kl _ h6, kl _ h7]
  rfl
theorem eq8 (M : List Nat) (h : M.length = 8) (hw : words M) (w : World) : (Op.equalIn 10000 40 (.agg (wcells M).toArray) (.agg (wcells M).toArray)).run Try.prog w = .ok true w := by
  obtain ⟨m0, M, rfl⟩ := List.exists_cons_of_length_eq_add_one h
  obtain ⟨m1, M, rfl⟩ := List.exists_cons_of_length_eq_add_one (Nat.succ.inj h)
  obtain ⟨m2, M, rfl⟩ := List.exists_cons_of_length_eq_add_one (Nat.succ.inj (Nat.succ.inj h))
  obtain ⟨m3, M, rfl⟩ := List.exists_cons_of_length_eq_add_one (Nat.succ.inj (Nat.succ.inj (Nat.succ.inj h)))
  obtain ⟨m4, M, rfl⟩ := List.exists_cons_of_length_eq_add_one (Nat.succ.inj (Nat.succ.inj (Nat.succ.inj (Nat.succ.inj h))))
  obtain ⟨m5, M, rfl⟩ := List.exists_cons_of_length_eq_add_one (Nat.succ.inj (Nat.succ.inj (Nat.succ.inj (Nat.succ.inj (Nat.succ.inj h)))))
  obtain ⟨m6, M, rfl⟩ := List.exists_cons_of_length_eq_add_one (Nat.succ.inj (Nat.succ.inj (Nat.succ.inj (Nat.succ.inj (Nat.succ.inj (Nat.succ.inj h))))))
  obtain ⟨m7, M, rfl⟩ := List.exists_cons_of_length_eq_add_one (Nat.succ.inj (Nat.succ.inj (Nat.succ.inj (Nat.succ.inj (Nat.succ.inj (Nat.succ.inj (Nat.succ.inj h)))))))
  obtain rfl : M = [] := by simp at h; exact h
  have hk := kl8 m0 m1 m2 m3 m4 m5 m6 m7 (hw _ (by simp)) (hw _ (by simp)) (hw _ (by simp)) (hw _ (by simp)) (hw _ (by simp)) (hw _ (by simp)) (hw _ (by simp)) (hw _ (by simp))
  obtain ⟨r, hr, hi⟩ := run_equalIn_deep (P := Try.prog) 9990 10 40 (by kernel_rfl) w 10 10 (.agg (wcells [m0, m1, m2, m3, m4, m5, m6, m7]).toArray) (.agg (wcells [m0, m1, m2, m3, m4, m5, m6, m7]).toArray) _ _ (by rfl) (by rfl) hk hk
  rw [hi.2 rfl] at hr
  exact hr
set_option maxHeartbeats 4000000 in
theorem mixes_c (w : World) (s : List Nat) (hsl : s.length = 8) (hsw : words s) (A : Option Addr) (c : Nat) (l : List Int) (hr : Kd.C (Kd.int .u8) w A l.length l) (hc : l.length ≤ c) (hb : ∀ x ∈ l, 0 ≤ x ∧ x < 256) :
    Calls Try.prog 9 #[.agg (wcells s).toArray, .slice A l.length c] w (Tells w (Is (.bool true))) := by
  obtain ⟨n, hn⟩ : ∃ n, n = l.length := ⟨_, rfl⟩
  rw [← hn] at hr hc ⊢
  have hb0 : Blk (w.alloc (.cells (wcells s).toArray 40)) w.heap.size 40 (wcells s) := Blk.new w _ _
  have HB0 := Lib.hid hb0
  have HSL := Lib.hid hsl
  by_cases h : n = 64
  · subst h
    have H1 := Lib.hid (fun w' (hg : Grew w w') => mixO_c w' s A c l hsl hsw hn.symm hb (Kd.C_below hr hg) hc)
    have H2 := Lib.hid (fun w' => rmix_c w' kL s l kL_len kL_words hsl hsw hn.symm hb)
    obtain ⟨M, hM⟩ : ∃ M, M = mixL kL s l := ⟨_, rfl⟩
    have hml : M.length = 8 := by rw [hM]; exact mixL_len _ _ _
    have HMW := Lib.hid (show words M from by rw [hM]; exact mixL_words _ _ _ hsw)
    rw [← hM] at H1 H2
    obtain ⟨B, hB⟩ : ∃ B, B = strOfNums l := ⟨_, rfl⟩
    rw [← hB] at H2
    have HST := Lib.hid (fun (w' : World) (hg : Grew w w') => show (convert 28 9 (.slice A 64 c)).run Try.prog w' = .ok (.string B) w' from by
      rw [hB]; exact Kd.C_string (P := Try.prog) Try.underlying28 Try.underlying5 Try.underlying9 (Kd.C_below hr hg))
    have HML := Lib.hid hml
    clear hr hc hb hb0 hsl hsw hn hM hml hB
    go_enter Try.func9, Try.ntmps9
    go_wp2_with (refine wpList_load_blk HB0.out (by rfl) 40 (.tmp 2) (by rfl) (by rfl) _ Try.underlying40 (by rfl) (by rw [wcells_len, HSL.out]; kernel_rfl) ?_)
    refine (H1.out _ (Grew.alloc _ _)).mono ?_
    rintro e w1 ⟨_, rfl, rfl, hg1⟩
    have HS1 := Lib.hid (HB0.out.grew hg1)
    go_wp2_with (refine wpList_store_blk (c := wcells M) (Blk.new _ 40 (wcells (List.replicate 8 0))) (by rfl) 40 (.tmp 5) (.tmp 11) (by rfl) (by rfl) (by rfl) (by rw [wcells_len, HML.out]; kernel_rfl) (by rw [wcells_len, wcells_len, HML.out]; rfl) (wcells_one _) ?_)
    simp only [zeros8]
    have hm5 : Blk ((w1.alloc (.cells (wcells (List.replicate 8 0)).toArray 40)).setRow w1.heap.size (wcells M).toArray) w1.heap.size 40 (wcells M) := (Blk.new w1 _ _).setRow _
    have hg5 : Grew w1 ((w1.alloc (.cells (wcells (List.replicate 8 0)).toArray 40)).setRow w1.heap.size (wcells M).toArray) := Grew.setRow (Grew.alloc _ _) (Nat.le_refl _) _
    obtain ⟨W5, hW5⟩ : ∃ W5, W5 = ((w1.alloc (.cells (wcells (List.replicate 8 0)).toArray 40)).setRow w1.heap.size (wcells M).toArray) := ⟨_, rfl⟩
    rw [← hW5] at hm5 hg5 ⊢
    have HM5 := Lib.hid hm5
    have HS5 := Lib.hid (HS1.out.grew hg5)
    have HGW := Lib.hid (Grew.trans (Grew.trans (Grew.alloc w (.cells (wcells s).toArray 40)) hg1) hg5)
    clear hm5 hg5 hW5 hg1
    apply region_grew [Is _, Is _, Is _, Is _, Is _, Is _, Is _, Is _, Is _] [([(6, none)], none), ([(26, some 0)], none), ([(27, some 1)], none), ([(5, none), (28, some 2)], some (28, true)), ([(28, some 2)], some (28, true)), ([(2, none), (28, some 2)], some (28, true)), ([(1, none), (28, some 2)], some (28, true)), ([(32, some 6), (28, some 2)], some (28, true)), ([(30, some 4), (31, some 5), (33, some 7), (28, some 2)], some (28, true))] [(26, 0), (27, 1), (28, 2), (29, 3), (30, 4), (31, 5), (32, 6), (33, 7), (34, 8)] rfl (by kernel_rfl) (by kernel_rfl) (show Stable Grew _ from ⟨Is.stable _, Is.stable _, Is.stable _, Is.stable _, Is.stable _, Is.stable _, Is.stable _, Is.stable _, Is.stable _, trivial⟩)
    · show OpsHold _ _ _ _ _ _ _ _ _
      refine ⟨fun a_ wx hR hD K hK => ?_, ?_⟩
      · have hG : Grew W5 wx := (Grew.drew _).trans hR
        simp [Deps, Dep, at_, Is] at hD
        go_simp
        exact hK _ _ (Grew.refl _) rfl
      refine ⟨fun a_ wx hR hD K hK => ?_, ?_⟩
      · have hG : Grew W5 wx := (Grew.drew _).trans hR
        simp [Deps, Dep, at_, Is] at hD
        go_simp
        exact hK _ _ (Grew.refl _) rfl
      refine ⟨fun a_ wx hR hD K hK => ?_, ?_⟩
      · have hG : Grew W5 wx := (Grew.drew _).trans hR
        simp [Deps, Dep, at_, Is] at hD
        go_simp
        exact hK _ _ (Grew.refl _) rfl
      refine ⟨fun a_ wx hR hD => ⟨fun hgd K hK => ?_, fun hgd => ?_⟩, ?_⟩
      · have hG : Grew W5 wx := (Grew.drew _).trans hR
        clear hgd
        simp [Deps, Dep, at_, Is] at hD
        obtain ⟨hd0, hd1⟩ := hD
        exact wp_load_mid 40 (.tmp 5) rfl w1.heap.size 0 (by first | exact eval_tmp hd0 | exact eval_tmp hd1) (wcells M) _ (Blk.range0 (HM5.out.grew hG)) Try.underlying40 (by rfl) (by rw [wcells_len, HML.out]; kernel_rfl) (hK _ _ (Grew.refl _) rfl)
      · have hG : Grew W5 wx := (Grew.drew _).trans hR
        exfalso
        simp [Deps, Dep, at_, Is] at hD
        simp_all
      refine ⟨fun a_ wx hR hD => ⟨fun hgd K hK => ?_, fun hgd => ?_⟩, ?_⟩
      · have hG : Grew W5 wx := (Grew.drew _).trans hR
        clear hgd
        simp [Deps, Dep, at_, Is] at hD
        go_simp
        have hcn := words_c wx
        with_reducible refine hcn.mono ?_
        clear hcn
        rintro e wy ⟨v, rfl, hv, hg⟩
        exact hK _ _ hg hv
      · have hG : Grew W5 wx := (Grew.drew _).trans hR
        exfalso
        simp [Deps, Dep, at_, Is] at hD
        simp_all
      refine ⟨fun a_ wx hR hD => ⟨fun hgd K hK => ?_, fun hgd => ?_⟩, ?_⟩
      · have hG : Grew W5 wx := (Grew.drew _).trans hR
        clear hgd
        simp [Deps, Dep, at_, Is] at hD
        obtain ⟨hd0, hd1⟩ := hD
        exact wp_load_mid 40 (.tmp 2) rfl w.heap.size 0 (by first | exact eval_tmp hd0 | exact eval_tmp hd1) (wcells s) _ (Blk.range0 (HS5.out.grew hG)) Try.underlying40 (by rfl) (by rw [wcells_len, HSL.out]; kernel_rfl) (hK _ _ (Grew.refl _) rfl)
      · have hG : Grew W5 wx := (Grew.drew _).trans hR
        exfalso
        simp [Deps, Dep, at_, Is] at hD
        simp_all
      refine ⟨fun a_ wx hR hD => ⟨fun hgd K hK => ?_, fun hgd => ?_⟩, ?_⟩
      · have hG : Grew W5 wx := (Grew.drew _).trans hR
        clear hgd
        simp [Deps, Dep, at_, Is] at hD
        obtain ⟨hd0, hd1⟩ := hD
        go_simp
        exact hK _ _ (Grew.refl _) rfl
      · have hG : Grew W5 wx := (Grew.drew _).trans hR
        exfalso
        simp [Deps, Dep, at_, Is] at hD
        simp_all
      refine ⟨fun a_ wx hR hD => ⟨fun hgd K hK => ?_, fun hgd => ?_⟩, ?_⟩
      · have hG : Grew W5 wx := (Grew.drew _).trans hR
        clear hgd
        simp [Deps, Dep, at_, Is] at hD
        obtain ⟨hd0, hd1⟩ := hD
        have hcv := HST.out wx (Grew.trans HGW.out hG)
        go_simp
        exact hK _ _ (Grew.refl _) rfl
      · have hG : Grew W5 wx := (Grew.drew _).trans hR
        exfalso
        simp [Deps, Dep, at_, Is] at hD
        simp_all
      refine ⟨fun a_ wx hR hD => ⟨fun hgd K hK => ?_, fun hgd => ?_⟩, ?_⟩
      · have hG : Grew W5 wx := (Grew.drew _).trans hR
        clear hgd
        simp [Deps, Dep, at_, Is] at hD
        obtain ⟨hd0, hd1, hd2, hd3⟩ := hD
        go_simp
        have hcn := H2.out wx
        with_reducible refine hcn.mono ?_
        clear hcn
        rintro e wy ⟨v, rfl, hv, hg⟩
        exact hK _ _ hg hv
      · have hG : Grew W5 wx := (Grew.drew _).trans hR
        exfalso
        simp [Deps, Dep, at_, Is] at hD
        simp_all
      trivial
    · show EndHold _ _ _ _ _ _ _
      refine end_all (xs := [_, _, _, _, _, _, _, _, _]) ⟨rfl, rfl, rfl, rfl, rfl, rfl, rfl, rfl, rfl, trivial⟩ ?_
      rintro w6 hR1 -
      refine ⟨?_⟩
      have hG_w6 : Grew W5 w6 := (Grew.drew _).trans hR1
      clear hR1
      simp only [Act.put, List.setIfInBounds_toArray, List.set_cons_succ, List.set_cons_zero, dropN, putEach]
      have he := eq8 M HML.out HMW.out w6
      go_wp2_with fail
      refine (lives_c w6).mono ?_
      rintro e w7 ⟨_, rfl, rfl, hg7⟩
      go_wp2_with fail
      go_ret
      exact ⟨_, rfl, rfl, Grew.trans (Grew.trans HGW.out hG_w6) hg7⟩
  · have H1 := Lib.hid (fun w' (hg : Grew w w') => mixE_c w' s A n c l hsl hn.symm h (Kd.C_below hr hg) hc)
    clear hr hc hb hb0 hsl hsw hn
    have i1 : ¬ (n : Int) = 64 := by omega
    have i2 : decide ((n : Int) = 64) = false := decide_eq_false i1
    go_enter Try.func9, Try.ntmps9
    go_wp2_with (refine wpList_load_blk HB0.out (by rfl) 40 (.tmp 2) (by rfl) (by rfl) _ Try.underlying40 (by rfl) (by rw [wcells_len, HSL.out]; kernel_rfl) ?_)
    refine (H1.out _ (Grew.alloc _ _)).mono ?_
    rintro e w1 ⟨_, rfl, rfl, hg1⟩
    have hz := (Blk.new w1 40 [.int .u32 0, .int .u32 0, .int .u32 0, .int .u32 0, .int .u32 0, .int .u32 0, .int .u32 0, .int .u32 0]).setRow (wcells [0, 0, 0, 0, 0, 0, 0, 0])
    have z0 := hz.at_ 0
    have z1 := hz.at_ 1
    have z2 := hz.at_ 2
    have z3 := hz.at_ 3
    have z4 := hz.at_ 4
    have z5 := hz.at_ 5
    have z6 := hz.at_ 6
    have z7 := hz.at_ 7
    rw [cells_get _ _ (by decide)] at z0 z1 z2 z3 z4 z5 z6 z7
    have hg5 : Grew w1 ((w1.alloc (.cells #[.int .u32 0, .int .u32 0, .int .u32 0, .int .u32 0, .int .u32 0, .int .u32 0, .int .u32 0, .int .u32 0] 40)).setRow w1.heap.size (wcells [0, 0, 0, 0, 0, 0, 0, 0]).toArray) := Grew.setRow (Grew.alloc _ _) (Nat.le_refl _) _
    clear hz
    have he := fun w' => eq8 [0, 0, 0, 0, 0, 0, 0, 0] rfl (by intro x hx; simp at hx; omega) w'
    simp only [show (wcells [0, 0, 0, 0, 0, 0, 0, 0]).toArray = #[Value.int .u32 0, .int .u32 0, .int .u32 0, .int .u32 0, .int .u32 0, .int .u32 0, .int .u32 0, .int .u32 0] from rfl] at he
    rw [show (#[Value.int .u32 0, .int .u32 0, .int .u32 0, .int .u32 0, .int .u32 0, .int .u32 0, .int .u32 0, .int .u32 0] : Array Value) = (wcells [0, 0, 0, 0, 0, 0, 0, 0]).toArray from rfl] at hg5
    go_wp2_with (first
      | refine wpList_store_blk (c := wcells (List.replicate 8 0)) (Blk.new _ 40 (wcells (List.replicate 8 0))) (by rfl) 40 (.tmp 5) (.tmp 11) (by rfl) (by rfl) (by rfl) (by kernel_rfl) (by rfl) (wcells_one _) ?_)
    refine (lives_c _).mono ?_
    rintro e w7 ⟨_, rfl, rfl, hg7⟩
    go_wp2_with fail
    go_ret
    exact ⟨_, rfl, rfl, Grew.trans (Grew.trans (Grew.trans (Grew.alloc w _) hg1) hg5) hg7⟩
set_option maxHeartbeats 4000000 in
theorem ShaMixes_c (w : World) (x0 x1 x2 x3 x4 x5 x6 x7 : Int) (A : Option Addr) (c : Nat) (l : List Int) (h0 : (Lit.int .u32 x0).wf = true) (h1 : (Lit.int .u32 x1).wf = true) (h2 : (Lit.int .u32 x2).wf = true) (h3 : (Lit.int .u32 x3).wf = true) (h4 : (Lit.int .u32 x4).wf = true) (h5 : (Lit.int .u32 x5).wf = true) (h6 : (Lit.int .u32 x6).wf = true) (h7 : (Lit.int .u32 x7).wf = true)
    (hr : Kd.C (Kd.int .u8) w A l.length l) (hc : l.length ≤ c) (hm : l.length ≤ 9223372036854775807) (hy : l.length * 1 ≤ 140737488351232) (hw : ∀ x ∈ l, (Lit.int .u8 x).wf = true) :
    Calls Try.prog 9 #[.agg #[.int .u32 x0, .int .u32 x1, .int .u32 x2, .int .u32 x3, .int .u32 x4, .int .u32 x5, .int .u32 x6, .int .u32 x7], .slice A l.length c] w (Tells w (Is (.bool true))) := by
  obtain ⟨n0, rfl, b0⟩ := wf32 h0
  obtain ⟨n1, rfl, b1⟩ := wf32 h1
  obtain ⟨n2, rfl, b2⟩ := wf32 h2
  obtain ⟨n3, rfl, b3⟩ := wf32 h3
  obtain ⟨n4, rfl, b4⟩ := wf32 h4
  obtain ⟨n5, rfl, b5⟩ := wf32 h5
  obtain ⟨n6, rfl, b6⟩ := wf32 h6
  obtain ⟨n7, rfl, b7⟩ := wf32 h7
  exact mixes_c w [n0, n1, n2, n3, n4, n5, n6, n7] rfl (by intro x hx; simp at hx; omega) A c l hr hc (wf8 hw)
end Go.Proofs.Ytphkohdfdkmpcaa.F

-- RowShaMixes
namespace Go.Proofs.Ytphkohdfdkmpcaa.shaMixes
open Go.ChangeShapes Go.WideShapes Go.ChangeAt Go.RowKit
open Go.ChangeMaps (open_string shut_string)
set_option linter.unusedVariables false
set_option linter.unusedSimpArgs false
theorem own : ownKnob Try.prog.godebug = none := by kernel_rfl
theorem laidOut : laidOutB Try.prog = true := by kernel_rfl
def IsRow (k : IntKind) (w : World) (a : Option Addr) (len cap : Nat) (zs : List Int) : Prop :=
  (a = none ∧ len = 0 ∧ cap = 0 ∧ zs = []) ∨
  ∃ x, a = some x ∧ len ≤ cap ∧ cap ≤ maxLen ∧ zs.length = cap ∧ (∀ i, i < zs.length → w.cell? (x.add i) = some (.int k (zs.getD i 0))) ∧ ∀ n ∈ zs, (Lit.int k n).wf = true
set_option maxRecDepth 100000 in
theorem lifted (os : Os) (started : os.Started) (H : Type) (enc : TypeId × Value → H) :
    ReturnsInHanded {} Try.checked os 9 .any (Rows.shaMixesSpec.pre6 enc Try.prog Try.f9 Rows.shaMixesRow.domain false) (Rows.shaMixesSpec.post enc Try.prog Try.f9 false true false false) := by
  refine returnsInHanded_of_change_sized (C := Try.checked) own started (by kernel_rfl) Try.func9
    (ChangeSpec.witness6 (enc := enc) (C := Try.checked) false ⟨#[], #[.agg #[.int .u32 0, .int .u32 0, .int .u32 0, .int .u32 0, .int .u32 0, .int .u32 0, .int .u32 0, .int .u32 0], .slice none 0 0], []⟩ 8 (by kernel_rfl) (by kernel_rfl) (by kernel_rfl) (by kernel_rfl)) ?_
  intro W base args ds gs before hval0 hW hcnd hsz0 _
  have hsz : (DataW.weightsEach Try.prog (Try.f9.params.toList ++ Rows.shaMixesSpec.plain.varTypes Try.prog) (ds ++ gs)).all (· ≤ reachBytes) = true := hsz0
  have hval : ∀ (j : Nat) t v, Try.f9.params[j]? = some t → args[j]? = some v → Value.okWide Try.prog W .any base t v := hval0
  have hW' := hW
  obtain ⟨p, q, hA0, hV, rfl, hfz, hnd⟩ := hW
  have hA : DataW.TrodAll enc Try.prog W 0 (fun _ => true) true Try.f9.params.toList args.toList ds p := hA0
  rw [Try.params9] at hA hval hsz
  obtain ⟨v0, vs0, d0, ds0, p0, q0, hargs, rfl, rfl, h0, r0⟩ := trodAll_cons hA
  obtain ⟨v1, vs1, d1, ds1, p1, q1, rfl, rfl, rfl, h1, r1⟩ := trodAll_cons r0
  obtain ⟨rfl, rfl, rfl⟩ := trodAll_nil r1
  obtain rfl : args = #[v0, v1] := by cases args; simp_all
  obtain ⟨rfl, rfl⟩ := trodVars_none hV
  obtain ⟨cs0, rfl, hcs0⟩ := Go.Proofs.YtphkohdfdkmpcaaO.okWide_array Try.underlying40 (hval 0 40 v0 rfl rfl)
  have k0 := h0
  have lt0 : ∀ x ∈ p0, x.block < W.heap.size := by obtain ⟨m, hm⟩ := k0; exact DataW.trod_lt m _ _ _ hm
  obtain ⟨x0, hx0, ok0⟩ := Go.Proofs.YtphkohdfdkmpcaaO.opensW_arg (d := (Go.Proofs.YtphkohdfdkmpcaaW.PrintWords.Kd.arr 8 (Go.Proofs.YtphkohdfdkmpcaaW.PrintWords.Kd.int .u32) (by decide))) (Go.Proofs.YtphkohdfdkmpcaaO.opensW_array (by decide) Try.underlying40 (Go.Proofs.YtphkohdfdkmpcaaO.Opens.w (Go.Proofs.YtphkohdfdkmpcaaO.opens_int Try.underlying22)) (by kernel_rfl) (by kernel_rfl)) hsz (j := 0) (t := 40) rfl rfl h0
  obtain ⟨x0_0, x0_1, x0_2, x0_3, x0_4, x0_5, x0_6, x0_7, c0_0, c0_1, c0_2, c0_3, c0_4, c0_5, c0_6, c0_7, rfl, rfl, K0_0, K0_1, K0_2, K0_3, K0_4, K0_5, K0_6, K0_7⟩ := Go.Proofs.YtphkohdfdkmpcaaO.arr8 rfl hx0
  obtain rfl := (List.cons.inj K0_0).1
  obtain rfl := (List.cons.inj K0_1).1
  obtain rfl := (List.cons.inj K0_2).1
  obtain rfl := (List.cons.inj K0_3).1
  obtain rfl := (List.cons.inj K0_4).1
  obtain rfl := (List.cons.inj K0_5).1
  obtain rfl := (List.cons.inj K0_6).1
  obtain rfl := (List.cons.inj K0_7).1
  obtain ⟨a1, len1, cap1, rfl⟩ := okWide_slice Try.underlying28 (hval 1 28 v1 rfl rfl)
  have k1 := h1
  have lt1 : ∀ x ∈ p1, x.block < W.heap.size := by obtain ⟨m, hm⟩ := k1; exact DataW.trod_lt m _ _ _ hm
  obtain ⟨z1, w1⟩ : ∃ zs, IsRow .u8 W a1 len1 cap1 zs := by
    obtain ⟨fuel, hf⟩ := h1
    rcases open_ints Try.underlying28 Try.underlying5 (by kernel_rfl) hf with ⟨hcs, _⟩ | ⟨x, l, c, zs, hcs, _, hl, hm, hz, _, hcell, hwz⟩
    · simp [Value.cells] at hcs
      obtain ⟨rfl, rfl, rfl⟩ := hcs
      exact ⟨[], .inl ⟨rfl, rfl, rfl, rfl⟩⟩
    · simp [Value.cells] at hcs
      obtain ⟨rfl, rfl, rfl⟩ := hcs
      exact ⟨zs, .inr ⟨_, rfl, hl, hm, by simpa using hz, hcell, hwz⟩⟩
  have y1 : len1 * 1 ≤ 140737488351232 := Go.Proofs.YtphkohdfdkmpcaaW.PrintWords.sized_ints hsz (j := 1) (t := 28) rfl rfl Try.underlying28 Try.underlying5 (by kernel_rfl) (by kernel_rfl) h1
  obtain ⟨l1, rfl, hr1, hm1, hw1, hc1⟩ := Go.Proofs.YtphkohdfdkmpcaaW.PrintWords.ReadsInt.ofRowC w1
  clear hA0 hval0 hsz0 hsz
  refine (Go.Proofs.YtphkohdfdkmpcaaR.is_tells (Go.Proofs.Ytphkohdfdkmpcaa.F.ShaMixes_c W x0_0 x0_1 x0_2 x0_3 x0_4 x0_5 x0_6 x0_7 a1 cap1 l1 (ok0 _ (by simp)) (ok0 _ (by simp)) (ok0 _ (by simp)) (ok0 _ (by simp)) (ok0 _ (by simp)) (ok0 _ (by simp)) (ok0 _ (by simp)) (ok0 _ (by simp)) (Go.Proofs.YtphkohdfdkmpcaaW.PrintWords.Kd.C_of_reads (d := (0 : Int)) (h1 := fun _ => rfl) hr1) hc1 hm1 y1 hw1)).mono fun e W' ⟨he, bel⟩ => ?_
  subst he
  exact ⟨_, rfl, _, _, _, [], _, [], hW', trodAll_mk1 (shut_bool Try.underlying4 _), (trodAll_cons_mk (Below.trod laidOut (by kernel_rfl) (of_decide_eq_true (by kernel_rfl)) k0 bel lt0) (trodAll_cons_mk (Below.trod laidOut (by kernel_rfl) (of_decide_eq_true (by kernel_rfl)) k1 bel lt1) trodAll_mk0)), rfl, bel.frame _, fun h => by cases h⟩
theorem over : Rows.shaMixesRow.holds Try.pinned (OpenSpec.ofChange Rows.shaMixesSpec) :=
  OpenClaim.holds_of_wide 9 Try.f9 rfl rfl rfl rfl rfl rfl rfl ⟨rfl, rfl, rfl, rfl, rfl⟩ rfl rfl rfl rfl rfl (by kernel_rfl) Try.func9 (by kernel_rfl)
    (of_decide_eq_true (by kernel_rfl)) (by unfold Func.isWrapper; first | (rw [if_pos (by decide +kernel)]; kernel_rfl) | (rw [if_neg (by decide +kernel)]; exact ⟨rfl, rfl⟩))
    (fun os started H enc _ => lifted os started H enc)
end Go.Proofs.Ytphkohdfdkmpcaa.shaMixes
namespace Go.Proofs.Ytphkohdfdkmpcaa
/-- The row, under a short name, for the claim. -/
theorem shaMixes_holds : Rows.ShaMixesSaid := shaMixes.over
#print axioms shaMixes_holds
end Go.Proofs.Ytphkohdfdkmpcaa
