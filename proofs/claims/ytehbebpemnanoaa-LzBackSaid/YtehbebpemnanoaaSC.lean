/- Texts of this seat laid together: LzG, LzT, LzU, LzJ, LzK, LzV, LzP, LzH, LzQ, Open, OpenW, OpenS. -/
import Derived.Test.YtehbebpemnanoaaSB
import Derived.Laws.OwnMore
import Derived.Test.YtehbebpemnanoaaWArr
import Derived.SizedLaws
import Derived.ChangeSlices
import Derived.WideKeyArr2
import Derived.WalkKit
import Derived.ProofKit
import Derived.OpenShut

-- LzG
namespace Go.Proofs.Ytehbebpemnanoaa.F
open Go Go.RowKit Go.Proofs.YtehbebpemnanoaaW.PrintWords Go.Proofs.YtehbebpemnanoaaW.PrintLast Go.Proofs.YtehbebpemnanoaaW.PrintMore Go.Proofs.YtehbebpemnanoaaM Go.Proofs.YtehbebpemnanoaaR
attribute [local go_sem] max2_int min2_int max_two min_two
set_option linter.unusedSimpArgs false
set_option linter.unusedVariables false
set_option maxRecDepth 100000
/-- the world behind the first lines -/
def chW (w : World) (A : Option Addr) (n c : Nat) : World := ((((w.alloc (.cells #[.slice A n c] 25)).alloc (.cells #[.slice none 0 0] 29)).alloc (.map #[] 0)).alloc (.cells #[.map (some (w.heap.size + 1 + 1))] 60)).alloc (.cells #[.int .i64 0] 3)
theorem chW_0 (w : World) (A : Option Addr) (n c : Nat) : FlS w.heap.size w.heap.size (w.heap.size + 1) (w.heap.size + 1 + 1 + 1 + 1) A n c [] 0 (.slice none 0 0) (chW w A n c) ∧ Blk (chW w A n c) (w.heap.size + 1 + 1 + 1) 60 [.map (some (w.heap.size + 1 + 1))] ∧ MapI (chW w A n c) Try.prog 62 3 (w.heap.size + 1 + 1) 0 (fun _ => none) ∧ Grew w (chW w A n c) := by
  have s1 : (w.alloc (.cells #[.slice A n c] 25)).heap.size = w.heap.size + 1 := by simp
  have s2 : ((w.alloc (.cells #[.slice A n c] 25)).alloc (.cells #[.slice none 0 0] 29)).heap.size = w.heap.size + 1 + 1 := by simp
  have s3 : (((w.alloc (.cells #[.slice A n c] 25)).alloc (.cells #[.slice none 0 0] 29)).alloc (.map #[] 0)).heap.size = w.heap.size + 1 + 1 + 1 := by simp
  have s4 : ((((w.alloc (.cells #[.slice A n c] 25)).alloc (.cells #[.slice none 0 0] 29)).alloc (.map #[] 0)).alloc (.cells #[.map (some (w.heap.size + 1 + 1))] 60)).heap.size = w.heap.size + 1 + 1 + 1 + 1 := by simp
  have b1 := Blk.new w 25 [.slice A n c]
  have b2 := Blk.new (w.alloc (.cells #[.slice A n c] 25)) 29 [.slice none 0 0]
  have b3 := mapI_made ((w.alloc (.cells #[.slice A n c] 25)).alloc (.cells #[.slice none 0 0] 29)) Try.prog 62 3
  have b4 := Blk.new (((w.alloc (.cells #[.slice A n c] 25)).alloc (.cells #[.slice none 0 0] 29)).alloc (.map #[] 0)) 60 [.map (some (w.heap.size + 1 + 1))]
  have b5 := Blk.new ((((w.alloc (.cells #[.slice A n c] 25)).alloc (.cells #[.slice none 0 0] 29)).alloc (.map #[] 0)).alloc (.cells #[.map (some (w.heap.size + 1 + 1))] 60)) 3 [.int .i64 0]
  rw [s1] at b2
  rw [s2] at b3
  rw [s3] at b4
  rw [s4] at b5
  refine ⟨⟨?_, ?_, b5, World.ownsRow_nil _ _ _ _⟩, ?_, ?_, ?_⟩
  · exact b1.grew ((Grew.alloc _ _).trans ((Grew.alloc _ _).trans ((Grew.alloc _ _).trans (Grew.alloc _ _))))
  · exact b2.grew ((Grew.alloc _ _).trans ((Grew.alloc _ _).trans (Grew.alloc _ _)))
  · exact b4.grew (Grew.alloc _ _)
  · exact b3.upd (S := fun _ => False) (Upd.of_grew ((Grew.alloc _ _).trans (Grew.alloc _ _))) id
  · exact (Grew.alloc _ _).trans ((Grew.alloc _ _).trans ((Grew.alloc _ _).trans ((Grew.alloc _ _).trans (Grew.alloc _ _))))
def ChV (base : Nat) (l : List Int) : World → Value → Prop := fun w v => ∃ L, Chosen l L ∧ w.ownsRow base 47 3 v L.length (tks L)
set_option maxHeartbeats 8000000 in
theorem choose_c (w : World) (A : Option Addr) (n c : Nat) (l : List Int) (hr : Kd.C (Kd.int .u8) w A n l) (hn : l.length = n) (hc : n ≤ c) (hb : ∀ x ∈ l, 0 ≤ x ∧ x < 256) (hn2 : n ≤ 65536) :
    Calls Try.prog 24 #[.slice A n c] w (Tells w (ChV w.heap.size l)) := by
  obtain ⟨hF0, hT0, hM0, hG0⟩ := chW_0 w A n c
  obtain ⟨W0, hW0⟩ : ∃ W0, W0 = chW w A n c := ⟨_, rfl⟩
  rw [← hW0] at hF0 hT0 hM0 hG0
  have HF0 := Lib.hid hF0
  have HT0 := Lib.hid hT0
  have HM0 := Lib.hid hM0
  have HG0 := Lib.hid hG0
  have HWE := Lib.hid hW0
  have HB := Lib.hid hb
  have HN := Lib.hid hn
  have HR := Lib.hid hr
  clear hF0 hT0 hM0 hG0 hW0 hb hn hr
  have hmm := @run_makeMap Try.prog
  have hmf : ∀ (fn : Fn) (first cap : Array Value) (w : World), (Instr.makeFunc fn first cap).run Try.prog w = .ok (.func fn first cap) w := fun _ _ _ _ => rfl
  go_enter Try.func24, Try.ntmps24
  go_wp2_with fail
  obtain ⟨tf, htf⟩ : ∃ tf, tf = w.heap.size + 1 + 1 + 1 + 1 := ⟨_, rfl⟩
  obtain ⟨tm, htm⟩ : ∃ tm, tm = w.heap.size + 1 + 1 + 1 := ⟨_, rfl⟩
  obtain ⟨mb, hmb⟩ : ∃ mb, mb = w.heap.size + 1 + 1 := ⟨_, rfl⟩
  obtain ⟨tl, htl⟩ : ∃ tl, tl = w.heap.size + 1 := ⟨_, rfl⟩
  obtain ⟨tb, htb⟩ : ∃ tb, tb = w.heap.size := ⟨_, rfl⟩
  unfold chW at HWE
  rw [← HWE.out, ← htf, ← htm, ← hmb, ← htl, ← htb]
  rw [← htf, ← htl, ← htb] at HF0
  rw [← htm, ← hmb] at HT0
  rw [← hmb] at HM0
  have hadr : tb ≤ tl ∧ tb ≤ tf ∧ tb ≤ tm ∧ tb ≤ mb := by omega
  have HAD := Lib.hid hadr
  have HTB := Lib.hid htb
  clear htf htm hmb htl HWE hmm hmf hadr htb
  go_loopw [8] (fun iv wr => ∃ (i fr N : Nat) (acc : List Tk) (M : Lit → Option Int) (lv : Value), iv = .int .i64 (i : Int) ∧ LoopI l acc fr i M ∧ N ≤ i ∧ FlS tb tb tl tf A n c acc fr lv wr ∧ Blk wr tm 60 [.map (some mb)] ∧ MapI wr Try.prog 62 3 mb N M ∧ Grew w wr) (fun iv _ => n - (intOf iv).toNat)
  case atStart => exact ⟨0, 0, 0, [], _, _, rfl, LoopI.zero l, Nat.le_refl _, HF0.out, HT0.out, HM0.out, HG0.out⟩
  case round =>
    obtain ⟨i, fr, N, acc, M, lv, rfl, hL, hN, hF, hT, hM, hgr⟩ := hrel
    have c1 : wr.cell? ⟨tb, 0, none⟩ = some (.slice A n c) := by rw [hF.hb.at_]; rfl
    have hil := hL.il
    rw [HN.out] at hil
    obtain ⟨n1, n2, n3, n4⟩ := hF.ne
    have hme := hM.ne_blk hF.hb
    have hme2 := hM.ne_blk hF.hl
    have hme3 := hM.ne_blk hF.hf
    have hme4 := hM.ne_blk hT
    have hmo := hM.ne_own hF.own
    have HLI := Lib.hid hL
    have HF := Lib.hid hF
    have HT := Lib.hid hT
    have HM := Lib.hid hM
    have HG := Lib.hid hgr
    have HNN := Lib.hid hN
    have HAL := Lib.hid (show acc.length ≤ fr from by
      have := good_len acc 0 HLI.out.ci.good
      rw [HLI.out.ci.told] at this
      exact this)
    have hfi := HLI.out.fi
    clear hL hF hT hM hgr hN
    by_cases hlt : i < n
    · have y1 : decide ((i : Int) < (n : Int)) = true := decide_eq_true (by omega)
      have y2 : decide (i < n) = true := decide_eq_true hlt
      have HNOTE := Lib.hid (fun w' (h : Grew wr w') => note_c w' tb tm mb N A n c l M i (Kd.C_below HR.out (HG.out.trans h)) HN.out hc HB.out (by omega) (by omega) (HF.out.hb.grew h) (HT.out.grew h) (HM.out.move (h.block _ HM.out.lt)) (by have := HNN.out; omega))
      have HNX := Lib.hid (show ∀ w' w'', Grew wr w' → Upd (fun g => g = mb) w' w'' → FlS tb tb tl tf A n c acc fr lv w'' ∧ Blk w'' tm 60 [.map (some mb)] ∧ Grew w w'' from fun w' w'' h hu => by
        have hu2 : Upd (fun g => g = mb) wr w'' := (Upd.of_grew h).trans hu
        refine ⟨HF.out.upd hu2 (fun e => hme e.symm) (fun e => hme2 e.symm) (fun e => hme3 e.symm) (fun k hk e => hmo (by rw [hk, e])), HT.out.upd hu2 (fun e => hme4 e.symm), ?_⟩
        have := HAD.out
        rw [HTB.out] at this
        exact ((Upd.of_grew (S := fun g => g = mb) HG.out).trans hu2).grew (fun k hk e => by omega))
      have hw1 : IntKind.i64.wrap ((i : Int) + 1) = (i : Int) + 1 := by rw [IntWalk.i64_in _ (by omega)]
      by_cases h3 : i + 3 ≤ n
      · have y3 : decide ((i : Int) + 3 ≤ (n : Int)) = true := decide_eq_true (by omega)
        have hrow := fun j (hj : j < l.length) => row_cell (by rw [HN.out]; exact Kd.C_below HR.out HG.out) j hj
        have hNl := HN.out
        obtain ⟨ad, hA, k0⟩ := hrow i (by omega)
        obtain ⟨ad1, hA1, k1⟩ := hrow (i + 1) (by omega)
        obtain ⟨ad2, hA2, k2⟩ := hrow (i + 2) (by omega)
        subst hA
        obtain rfl := Option.some.inj hA1
        obtain rfl := Option.some.inj hA2
        have hby := fun j (hj : j < l.length) => HB.out l[j] (List.getElem_mem hj)
        have hgd := fun j (hj : j < l.length) => show l.getD j 0 = l[j] from by simp [List.getD, hj]
        have hkey : keyOf Try.prog 62 (.agg #[.int .u8 (l.getD i 0), .int .u8 (l.getD (i + 1) 0), .int .u8 (l.getD (i + 2) 0)]) = some (keyAt l i) := by
          refine keyOf3 _ _ _ ?_ ?_ ?_
          · rw [hgd i (by omega)]; exact hby i (by omega)
          · rw [hgd (i + 1) (by omega)]; exact hby (i + 1) (by omega)
          · rw [hgd (i + 2) (by omega)]; exact hby (i + 2) (by omega)
        have HLK := Lib.hid (fun w' (h : Grew wr w') => (HM.out.move (h.block _ HM.out.lt)).look keyed3 Try.underlying60 Try.underlying3 (zeroI w') hkey)
        obtain ⟨x0, hx0⟩ : ∃ x0, x0 = l.getD i 0 := ⟨_, rfl⟩
        obtain ⟨x1, hx1⟩ : ∃ x1, x1 = l.getD (i + 1) 0 := ⟨_, rfl⟩
        obtain ⟨x2, hx2⟩ : ∃ x2, x2 = l.getD (i + 2) 0 := ⟨_, rfl⟩
        rw [← hx0, ← hx1, ← hx2] at HLK
        rw [← hx0] at k0
        rw [← hx1, add_field _ _ 1 (by omega)] at k1
        rw [← hx2, add_field _ _ 2 (by omega)] at k2
        have KK := Lib.hid (fun wx (h : Grew wr wx) => And.intro (pw_cell_below h k0) (And.intro (pw_cell_below h k1) (pw_cell_below h k2)))
        have CB := Lib.hid (show ∀ wx, Grew wr wx → wx.cell? ⟨tb, 0, none⟩ = some (.slice (some ad) n c) from fun wx h => by rw [(HF.out.hb.grew h).at_]; rfl)
        have CM := Lib.hid (show ∀ wx, Grew wr wx → wx.cell? ⟨tm, 0, none⟩ = some (.map (some mb)) from fun wx h => by rw [(HT.out.grew h).at_]; rfl)
        have z1 : (i : Int) ≤ (i : Int) + 3 := by omega
        have z2 : (i : Int) + 3 ≤ (c : Int) := by omega
        have z3 : ((i : Int) + 3).toNat = i + 3 := by omega
        have z4 : ¬ c = i := by omega
        have z5 : (0 : Int) ≤ (i : Int) + 3 := by omega
        have z7 : i + 3 - i = 3 := by omega
        have z6 : IntKind.i64.wrap ((i : Int) + 3) = (i : Int) + 3 := by rw [IntWalk.i64_in _ (by omega)]
        clear hrow hby hgd hkey hx0 hx1 hx2 k0 k1 k2
        have HNl := Lib.hid hNl
        clear hNl
        cases hMk : M (keyAt l i) with
        | none =>
          rw [hMk] at HLK
          have HLIT := Lib.hid (HLI.out.lit (by rw [HN.out]; exact hlt) (fun h k hk => by rw [hMk] at hk; cases hk))
          have HLK2 := Lib.hid (fun w' (h : Grew wr w') => show (Instr.lookup 60 (.map (some mb)) (.agg #[.int .u8 x0, .int .u8 x1, .int .u8 x2]) true).run Try.prog w' = .ok (.tuple #[.int .i64 0, .bool false]) w' from HLK.out w' h)
          clear hMk HLK
          go_wp2_with fail
          apply region_grew [Is _, Is _, Is _, Is _, Is _, Is _, Is _, Is _, Is _, Is _, Is _, Is _, Is _] [([(4, none)], none), ([(1, none)], none), ([(8, none)], none), ([(8, none)], none), ([(29, some 3)], none), ([(27, some 1), (28, some 2), (30, some 4)], none), ([(31, some 5)], none), ([(32, some 6)], none), ([(26, some 0), (33, some 7)], none), ([(34, some 8)], none), ([(25, some 9)], none), ([(25, some 9)], none), ([(35, some 10)], none)] [(11, 12), (25, 9), (26, 0), (27, 1), (28, 2), (29, 3), (30, 4), (31, 5), (32, 6), (33, 7), (34, 8), (35, 10), (36, 11)] rfl (by kernel_rfl) (by kernel_rfl) (show Stable Grew _ from ⟨Is.stable _, Is.stable _, Is.stable _, Is.stable _, Is.stable _, Is.stable _, Is.stable _, Is.stable _, Is.stable _, Is.stable _, Is.stable _, Is.stable _, Is.stable _, trivial⟩)
          · show OpsHold _ _ _ _ _ _ _ _ _
            refine ⟨fun a_ wx hR hD K hK => ?_, ?_⟩
            · have hG : Grew wr wx := (Grew.drew _).trans hR
              simp [Deps, Dep, at_, Is] at hD
              have e_ := CM.out wx hG
              go_simp
              exact hK _ _ (Grew.refl _) rfl
            refine ⟨fun a_ wx hR hD K hK => ?_, ?_⟩
            · have hG : Grew wr wx := (Grew.drew _).trans hR
              simp [Deps, Dep, at_, Is] at hD
              have e_ := CB.out wx hG
              go_simp
              exact hK _ _ (Grew.refl _) rfl
            refine ⟨fun a_ wx hR hD K hK => ?_, ?_⟩
            · have hG : Grew wr wx := (Grew.drew _).trans hR
              simp [Deps, Dep, at_, Is] at hD
              go_simp
              exact hK _ _ (Grew.refl _) rfl
            refine ⟨fun a_ wx hR hD K hK => ?_, ?_⟩
            · have hG : Grew wr wx := (Grew.drew _).trans hR
              simp [Deps, Dep, at_, Is] at hD
              go_simp
              exact hK _ _ (Grew.refl _) rfl
            refine ⟨fun a_ wx hR hD K hK => ?_, ?_⟩
            · have hG : Grew wr wx := (Grew.drew _).trans hR
              simp [Deps, Dep, at_, Is] at hD
              go_simp
              exact hK _ _ (Grew.refl _) rfl
            refine ⟨fun a_ wx hR hD K hK => ?_, ?_⟩
            · have hG : Grew wr wx := (Grew.drew _).trans hR
              simp [Deps, Dep, at_, Is] at hD
              obtain ⟨hd0, hd1, hd2⟩ := hD
              go_simp
              exact hK _ _ (Grew.refl _) rfl
            refine ⟨fun a_ wx hR hD K hK => ?_, ?_⟩
            · have hG : Grew wr wx := (Grew.drew _).trans hR
              simp [Deps, Dep, at_, Is] at hD
              have e_ := run_arrayAt wx
              go_simp
              exact hK _ _ (Grew.refl _) rfl
            refine ⟨fun a_ wx hR hD K hK => ?_, ?_⟩
            · have hG : Grew wr wx := (Grew.drew _).trans hR
              simp [Deps, Dep, at_, Is] at hD
              have e0 := (KK.out wx hG).1
              have e1 := (KK.out wx hG).2.1
              have e2 := (KK.out wx hG).2.2
              go_simp
              exact hK _ _ (Grew.refl _) rfl
            refine ⟨fun a_ wx hR hD K hK => ?_, ?_⟩
            · have hG : Grew wr wx := (Grew.drew _).trans hR
              simp [Deps, Dep, at_, Is] at hD
              obtain ⟨hd0, hd1⟩ := hD
              have e_ := HLK2.out wx hG
              go_simp
              exact hK _ _ (Grew.refl _) rfl
            refine ⟨fun a_ wx hR hD K hK => ?_, ?_⟩
            · have hG : Grew wr wx := (Grew.drew _).trans hR
              simp [Deps, Dep, at_, Is] at hD
              go_simp
              exact hK _ _ (Grew.refl _) rfl
            refine ⟨fun a_ wx hR hD K hK => ?_, ?_⟩
            · have hG : Grew wr wx := (Grew.drew _).trans hR
              simp [Deps, Dep, at_, Is] at hD
              go_simp
              exact hK _ _ (Grew.refl _) rfl
            refine ⟨fun a_ wx hR hD K hK => ?_, ?_⟩
            · have hG : Grew wr wx := (Grew.drew _).trans hR
              simp [Deps, Dep, at_, Is] at hD
              go_simp
              exact hK _ _ (Grew.refl _) rfl
            refine ⟨fun a_ wx hR hD K hK => ?_, ?_⟩
            · have hG : Grew wr wx := (Grew.drew _).trans hR
              simp [Deps, Dep, at_, Is] at hD
              go_simp
              exact hK _ _ (Grew.refl _) rfl
            trivial
          · show EndHold _ _ _ _ _ _ _
            refine end_all (xs := [_, _, _, _, _, _, _, _, _, _, _, _, _]) ⟨rfl, rfl, rfl, rfl, rfl, rfl, rfl, rfl, rfl, rfl, rfl, rfl, rfl, trivial⟩ ?_
            rintro w2 hR1 -
            refine ⟨?_⟩
            have hG_w2 : Grew wr w2 := (Grew.drew _).trans hR1
            clear hR1
            simp only [Act.put, List.setIfInBounds_toArray, List.set_cons_succ, List.set_cons_zero, dropN, putEach]
            clear c1
            go_wp2_with fail
            refine (HNOTE.out w2 hG_w2).mono ?_
            rintro e w3 ⟨_, rfl, ⟨rfl, hM3⟩, hu3⟩
            obtain ⟨g1, g2, g3⟩ := HNX.out w2 w3 hG_w2 hu3
            have HM3 := Lib.hid hM3
            have HG1 := Lib.hid g1
            have HG2 := Lib.hid g2
            clear hM3 hu3 g1 g2
            go_wp2_with fail
            go_roundw
            case rel => exact ⟨i + 1, fr, N + 1, acc, noteM l M i, lv, by go_num, HLIT.out, by have := HNN.out; omega, HG1.out, HG2.out, HM3.out, g3⟩
            case measure => simp [intOf]; omega
        | some v =>
          rw [hMk] at HLK
          obtain ⟨hv0, hvi⟩ := HLI.out.mv _ _ hMk
          obtain ⟨k, rfl⟩ := Int.eq_ofNat_of_zero_le hv0
          have hki : k < i := by omega
          have HLK2 := Lib.hid (fun w' (h : Grew wr w') => show (Instr.lookup 60 (.map (some mb)) (.agg #[.int .u8 x0, .int .u8 x1, .int .u8 x2]) true).run Try.prog w' = .ok (.tuple #[.int .i64 (k : Int), .bool true]) w' from HLK.out w' h)
          by_cases hfar : i ≤ k + 65536
          · obtain ⟨an, hal, hAL⟩ := alike_c l (by rw [HN.out]; omega) k i hki (by rw [HN.out]; omega)
            have HALIKE := Lib.hid (fun w' (h : Grew wr w') => show Calls Try.prog 30 #[.slice (some ad) n c, .int .i64 (k : Int), .int .i64 (i : Int)] w' (Tells w' (Is (.int .i64 (an : Int)))) from by
              have := hAL w' (some ad) c (by rw [HN.out]; exact Kd.C_below HR.out (HG.out.trans h)) (by rw [HN.out]; exact hc)
              rw [HN.out] at this
              exact this)
            have x4 : decide ((i : Int) - (k : Int) ≤ 65536) = true := decide_eq_true (by omega)
            by_cases h4 : an ≤ 3
            · have HLIT := Lib.hid (HLI.out.lit (by rw [HN.out]; exact hlt) (fun h k' hk hf => by
                rw [hMk] at hk
                obtain rfl : k = k' := by have := Option.some.inj hk; omega
                exact ⟨an, hal, h4⟩))
              have x5 : decide ((an : Int) ≤ 3) = true := decide_eq_true (by omega)
              have x6 : decide (an ≤ 3) = true := decide_eq_true h4
              clear hMk HLK hal hAL hv0 hvi
              go_wp2_with fail
              apply region_grew [Is _, Is _, Is _, Is _, Is _, Is _, Is _, Is _, Is _, Is _, Is _, Is _, Is _] [([(4, none)], none), ([(1, none)], none), ([(8, none)], none), ([(8, none)], none), ([(29, some 3)], none), ([(27, some 1), (28, some 2), (30, some 4)], none), ([(31, some 5)], none), ([(32, some 6)], none), ([(26, some 0), (33, some 7)], none), ([(34, some 8)], none), ([(25, some 9)], none), ([(25, some 9)], none), ([(35, some 10)], none)] [(11, 12), (25, 9), (26, 0), (27, 1), (28, 2), (29, 3), (30, 4), (31, 5), (32, 6), (33, 7), (34, 8), (35, 10), (36, 11)] rfl (by kernel_rfl) (by kernel_rfl) (show Stable Grew _ from ⟨Is.stable _, Is.stable _, Is.stable _, Is.stable _, Is.stable _, Is.stable _, Is.stable _, Is.stable _, Is.stable _, Is.stable _, Is.stable _, Is.stable _, Is.stable _, trivial⟩)
              · show OpsHold _ _ _ _ _ _ _ _ _
                refine ⟨fun a_ wx hR hD K hK => ?_, ?_⟩
                · have hG : Grew wr wx := (Grew.drew _).trans hR
                  simp [Deps, Dep, at_, Is] at hD
                  have e_ := CM.out wx hG
                  go_simp
                  exact hK _ _ (Grew.refl _) rfl
                refine ⟨fun a_ wx hR hD K hK => ?_, ?_⟩
                · have hG : Grew wr wx := (Grew.drew _).trans hR
                  simp [Deps, Dep, at_, Is] at hD
                  have e_ := CB.out wx hG
                  go_simp
                  exact hK _ _ (Grew.refl _) rfl
                refine ⟨fun a_ wx hR hD K hK => ?_, ?_⟩
                · have hG : Grew wr wx := (Grew.drew _).trans hR
                  simp [Deps, Dep, at_, Is] at hD
                  go_simp
                  exact hK _ _ (Grew.refl _) rfl
                refine ⟨fun a_ wx hR hD K hK => ?_, ?_⟩
                · have hG : Grew wr wx := (Grew.drew _).trans hR
                  simp [Deps, Dep, at_, Is] at hD
                  go_simp
                  exact hK _ _ (Grew.refl _) rfl
                refine ⟨fun a_ wx hR hD K hK => ?_, ?_⟩
                · have hG : Grew wr wx := (Grew.drew _).trans hR
                  simp [Deps, Dep, at_, Is] at hD
                  go_simp
                  exact hK _ _ (Grew.refl _) rfl
                refine ⟨fun a_ wx hR hD K hK => ?_, ?_⟩
                · have hG : Grew wr wx := (Grew.drew _).trans hR
                  simp [Deps, Dep, at_, Is] at hD
                  obtain ⟨hd0, hd1, hd2⟩ := hD
                  go_simp
                  exact hK _ _ (Grew.refl _) rfl
                refine ⟨fun a_ wx hR hD K hK => ?_, ?_⟩
                · have hG : Grew wr wx := (Grew.drew _).trans hR
                  simp [Deps, Dep, at_, Is] at hD
                  have e_ := run_arrayAt wx
                  go_simp
                  exact hK _ _ (Grew.refl _) rfl
                refine ⟨fun a_ wx hR hD K hK => ?_, ?_⟩
                · have hG : Grew wr wx := (Grew.drew _).trans hR
                  simp [Deps, Dep, at_, Is] at hD
                  have e0 := (KK.out wx hG).1
                  have e1 := (KK.out wx hG).2.1
                  have e2 := (KK.out wx hG).2.2
                  go_simp
                  exact hK _ _ (Grew.refl _) rfl
                refine ⟨fun a_ wx hR hD K hK => ?_, ?_⟩
                · have hG : Grew wr wx := (Grew.drew _).trans hR
                  simp [Deps, Dep, at_, Is] at hD
                  obtain ⟨hd0, hd1⟩ := hD
                  have e_ := HLK2.out wx hG
                  go_simp
                  exact hK _ _ (Grew.refl _) rfl
                refine ⟨fun a_ wx hR hD K hK => ?_, ?_⟩
                · have hG : Grew wr wx := (Grew.drew _).trans hR
                  simp [Deps, Dep, at_, Is] at hD
                  go_simp
                  exact hK _ _ (Grew.refl _) rfl
                refine ⟨fun a_ wx hR hD K hK => ?_, ?_⟩
                · have hG : Grew wr wx := (Grew.drew _).trans hR
                  simp [Deps, Dep, at_, Is] at hD
                  go_simp
                  exact hK _ _ (Grew.refl _) rfl
                refine ⟨fun a_ wx hR hD K hK => ?_, ?_⟩
                · have hG : Grew wr wx := (Grew.drew _).trans hR
                  simp [Deps, Dep, at_, Is] at hD
                  go_simp
                  exact hK _ _ (Grew.refl _) rfl
                refine ⟨fun a_ wx hR hD K hK => ?_, ?_⟩
                · have hG : Grew wr wx := (Grew.drew _).trans hR
                  simp [Deps, Dep, at_, Is] at hD
                  go_simp
                  exact hK _ _ (Grew.refl _) rfl
                trivial
              · show EndHold _ _ _ _ _ _ _
                refine end_all (xs := [_, _, _, _, _, _, _, _, _, _, _, _, _]) ⟨rfl, rfl, rfl, rfl, rfl, rfl, rfl, rfl, rfl, rfl, rfl, rfl, rfl, trivial⟩ ?_
                rintro w2 hR1 -
                refine ⟨?_⟩
                have hG_w2 : Grew wr w2 := (Grew.drew _).trans hR1
                clear hR1
                simp only [Act.put, List.setIfInBounds_toArray, List.set_cons_succ, List.set_cons_zero, dropN, putEach]
                have c1 := CB.out w2 hG_w2
                go_wp2_with fail
                refine (HALIKE.out w2 hG_w2).mono ?_
                rintro e w3 ⟨_, rfl, rfl, hg3⟩
                have hG3 := hG_w2.trans hg3
                clear c1
                go_wp2_with fail
                refine (HNOTE.out w3 hG3).mono ?_
                rintro e w4 ⟨_, rfl, ⟨rfl, hM3⟩, hu3⟩
                obtain ⟨g1, g2, g3⟩ := HNX.out w3 w4 hG3 hu3
                have HM3 := Lib.hid hM3
                have HG1 := Lib.hid g1
                have HG2 := Lib.hid g2
                clear hM3 hu3 g1 g2
                go_wp2_with fail
                go_roundw
                case rel => exact ⟨i + 1, fr, N + 1, acc, noteM l M i, lv, by go_num, HLIT.out, by have := HNN.out; omega, HG1.out, HG2.out, HM3.out, g3⟩
                case measure => simp [intOf]; omega
            · have x5 : decide ((an : Int) ≤ 3) = false := decide_eq_false (by omega)
              have x6 : decide (an ≤ 3) = false := decide_eq_false h4
              obtain ⟨L4, hL4⟩ : ∃ L4, L4 = acc ++ litsT l fr i (cntL fr i) := ⟨_, rfl⟩
              have hbk := HLI.out.back HB.out (by rw [HN.out]; exact h3) hki hfar hal (by omega) hMk
              rw [← hL4] at hbk
              have HBK := Lib.hid hbk
              have hlen := hal.len
              have hle130 := hal.le
              rw [HN.out] at hlen
              have hl4 : L4.length ≤ 65536 := by
                have h1 := good_len _ 0 hbk.ci.good
                rw [hbk.ci.told, List.length_append] at h1
                omega
              have hT1 : tm ≠ tl := fun e => by
                have h1 := HF.out.hl; have h2 := HT.out
                unfold Blk at h1 h2
                rw [e, h1] at h2; simp at h2
              have hT2 : tm ≠ tf := fun e => by
                have h1 := HF.out.hf; have h2 := HT.out
                unfold Blk at h1 h2
                rw [e, h1] at h2; simp at h2
              have hT3 : ∀ k, lv.ownBlock = some k → k ≠ tm := fun k hk e => own_ne HF.out.own HT.out (by decide) (by rw [← e, hk])
              have HFLU := Lib.hid (fun w' (h : Grew wr w') => flush_c w w' tb tb tl tf (some ad) n c l acc fr i lv HR.out (HG.out.trans h) HTB.out HN.out hc (by omega) (by omega) hfi (HF.out.upd (S := fun _ => False) (Upd.of_grew h) id id id (fun _ _ h => h)) (by rw [HTB.out]; exact (HG.out.trans h).size) (by have := HAL.out; omega) ⟨HAD.out.1, HAD.out.2.1⟩)
              rw [← hL4] at HFLU
              clear hMk HLK hal hAL hv0 hvi hbk hL4
              go_wp2_with fail
              apply region_grew [Is _, Is _, Is _, Is _, Is _, Is _, Is _, Is _, Is _, Is _, Is _, Is _, Is _] [([(4, none)], none), ([(1, none)], none), ([(8, none)], none), ([(8, none)], none), ([(29, some 3)], none), ([(27, some 1), (28, some 2), (30, some 4)], none), ([(31, some 5)], none), ([(32, some 6)], none), ([(26, some 0), (33, some 7)], none), ([(34, some 8)], none), ([(25, some 9)], none), ([(25, some 9)], none), ([(35, some 10)], none)] [(11, 12), (25, 9), (26, 0), (27, 1), (28, 2), (29, 3), (30, 4), (31, 5), (32, 6), (33, 7), (34, 8), (35, 10), (36, 11)] rfl (by kernel_rfl) (by kernel_rfl) (show Stable Grew _ from ⟨Is.stable _, Is.stable _, Is.stable _, Is.stable _, Is.stable _, Is.stable _, Is.stable _, Is.stable _, Is.stable _, Is.stable _, Is.stable _, Is.stable _, Is.stable _, trivial⟩)
              · show OpsHold _ _ _ _ _ _ _ _ _
                refine ⟨fun a_ wx hR hD K hK => ?_, ?_⟩
                · have hG : Grew wr wx := (Grew.drew _).trans hR
                  simp [Deps, Dep, at_, Is] at hD
                  have e_ := CM.out wx hG
                  go_simp
                  exact hK _ _ (Grew.refl _) rfl
                refine ⟨fun a_ wx hR hD K hK => ?_, ?_⟩
                · have hG : Grew wr wx := (Grew.drew _).trans hR
                  simp [Deps, Dep, at_, Is] at hD
                  have e_ := CB.out wx hG
                  go_simp
                  exact hK _ _ (Grew.refl _) rfl
                refine ⟨fun a_ wx hR hD K hK => ?_, ?_⟩
                · have hG : Grew wr wx := (Grew.drew _).trans hR
                  simp [Deps, Dep, at_, Is] at hD
                  go_simp
                  exact hK _ _ (Grew.refl _) rfl
                refine ⟨fun a_ wx hR hD K hK => ?_, ?_⟩
                · have hG : Grew wr wx := (Grew.drew _).trans hR
                  simp [Deps, Dep, at_, Is] at hD
                  go_simp
                  exact hK _ _ (Grew.refl _) rfl
                refine ⟨fun a_ wx hR hD K hK => ?_, ?_⟩
                · have hG : Grew wr wx := (Grew.drew _).trans hR
                  simp [Deps, Dep, at_, Is] at hD
                  go_simp
                  exact hK _ _ (Grew.refl _) rfl
                refine ⟨fun a_ wx hR hD K hK => ?_, ?_⟩
                · have hG : Grew wr wx := (Grew.drew _).trans hR
                  simp [Deps, Dep, at_, Is] at hD
                  obtain ⟨hd0, hd1, hd2⟩ := hD
                  go_simp
                  exact hK _ _ (Grew.refl _) rfl
                refine ⟨fun a_ wx hR hD K hK => ?_, ?_⟩
                · have hG : Grew wr wx := (Grew.drew _).trans hR
                  simp [Deps, Dep, at_, Is] at hD
                  have e_ := run_arrayAt wx
                  go_simp
                  exact hK _ _ (Grew.refl _) rfl
                refine ⟨fun a_ wx hR hD K hK => ?_, ?_⟩
                · have hG : Grew wr wx := (Grew.drew _).trans hR
                  simp [Deps, Dep, at_, Is] at hD
                  have e0 := (KK.out wx hG).1
                  have e1 := (KK.out wx hG).2.1
                  have e2 := (KK.out wx hG).2.2
                  go_simp
                  exact hK _ _ (Grew.refl _) rfl
                refine ⟨fun a_ wx hR hD K hK => ?_, ?_⟩
                · have hG : Grew wr wx := (Grew.drew _).trans hR
                  simp [Deps, Dep, at_, Is] at hD
                  obtain ⟨hd0, hd1⟩ := hD
                  have e_ := HLK2.out wx hG
                  go_simp
                  exact hK _ _ (Grew.refl _) rfl
                refine ⟨fun a_ wx hR hD K hK => ?_, ?_⟩
                · have hG : Grew wr wx := (Grew.drew _).trans hR
                  simp [Deps, Dep, at_, Is] at hD
                  go_simp
                  exact hK _ _ (Grew.refl _) rfl
                refine ⟨fun a_ wx hR hD K hK => ?_, ?_⟩
                · have hG : Grew wr wx := (Grew.drew _).trans hR
                  simp [Deps, Dep, at_, Is] at hD
                  go_simp
                  exact hK _ _ (Grew.refl _) rfl
                refine ⟨fun a_ wx hR hD K hK => ?_, ?_⟩
                · have hG : Grew wr wx := (Grew.drew _).trans hR
                  simp [Deps, Dep, at_, Is] at hD
                  go_simp
                  exact hK _ _ (Grew.refl _) rfl
                refine ⟨fun a_ wx hR hD K hK => ?_, ?_⟩
                · have hG : Grew wr wx := (Grew.drew _).trans hR
                  simp [Deps, Dep, at_, Is] at hD
                  go_simp
                  exact hK _ _ (Grew.refl _) rfl
                trivial
              · show EndHold _ _ _ _ _ _ _
                refine end_all (xs := [_, _, _, _, _, _, _, _, _, _, _, _, _]) ⟨rfl, rfl, rfl, rfl, rfl, rfl, rfl, rfl, rfl, rfl, rfl, rfl, rfl, trivial⟩ ?_
                rintro w2 hR1 -
                refine ⟨?_⟩
                have hG_w2 : Grew wr w2 := (Grew.drew _).trans hR1
                clear hR1
                simp only [Act.put, List.setIfInBounds_toArray, List.set_cons_succ, List.set_cons_zero, dropN, putEach]
                have c1 := CB.out w2 hG_w2
                go_wp2_with fail
                refine (HALIKE.out w2 hG_w2).mono ?_
                rintro e w3 ⟨_, rfl, rfl, hg3⟩
                have hG3 := hG_w2.trans hg3
                clear c1
                go_wp2_with fail
                refine (HFLU.out w3 hG3).mono ?_
                rintro e w4 ⟨_, rfl, ⟨rfl, lv4, hF4, hfr4⟩, hu4⟩
                have hT4 := (HT.out.grew hG3).upd hu4 (fun h => by
                  rcases h with h | h | h
                  · exact hT1 h
                  · exact hT2 h
                  · exact hT3 tm h rfl)
                have hM4 := (HM.out.move (hG3.block _ HM.out.lt)).upd hu4 (fun h => by
                  rcases h with h | h | h
                  · exact hme2 h
                  · exact hme3 h
                  · exact hmo h)
                have hG4 : Grew w w4 := ((Upd.of_grew (S := fun k => tb ≤ k) (HG.out.trans hG3)).trans (hu4.mono fun k _ hS => by
                  rcases hS with h2 | h2 | h2
                  · rw [h2]; exact HAD.out.1
                  · rw [h2]; exact HAD.out.2.1
                  · exact own_base HF.out.own _ h2)).grew (fun k hk h => by have := HTB.out; omega)
                obtain ⟨A4, d4, rfl⟩ := own_slice hF4.own
                obtain ⟨l4, hl4e⟩ : ∃ l4, l4 = L4.length := ⟨_, rfl⟩
                have how := hF4.own
                rw [← hl4e] at how hl4
                have hF4' : FlS tb tb tl tf (some ad) n c L4 i (.slice A4 l4 d4) w4 := by rw [hl4e]; exact hF4
                have c4 : w4.cell? ⟨tl, 0, none⟩ = some (.slice A4 l4 d4) := by rw [hF4'.hl.at_]; rfl
                have hge := Grew.alloc w4 (.cells #[.int .i64 ((i : Int) - (k : Int)), .int .i64 (an : Int), .string ⟨#[]⟩] 47)
                obtain ⟨v5, w5, hrun5, hro5, hgr5, hat5⟩ := app_cells (P := Try.prog) (w4.alloc (.cells #[.int .i64 ((i : Int) - (k : Int)), .int .i64 (an : Int), .string ⟨#[]⟩] 47)) tb 29 47 29 (.agg #[.int .i64 0, .int .i64 0, .string ⟨#[]⟩]) 3 32 Try.underlying29 infoTk rfl (by decide) (by decide) (.slice A4 l4 d4) l4 (tks L4) w4.heap.size [.int .i64 ((i : Int) - (k : Int)), .int .i64 (an : Int), .string ⟨#[]⟩] rfl (by intro v hv; simp at hv; rcases hv with rfl | rfl | rfl <;> rfl) (pw_own_below how hge) (Blk.new w4 _ [.int .i64 ((i : Int) - (k : Int)), .int .i64 (an : Int), .string ⟨#[]⟩]) (by rw [HTB.out]; exact Nat.le_trans hG4.size hge.size) (by omega)
                obtain ⟨A5, d5, rfl⟩ := own_slice hro5
                have hu5 : Upd (fun g => (Value.slice A4 l4 d4).ownBlock = some g) w4 w5 := (Upd.of_grew hge).then_ (Upd.of_grown hgr5) (fun _ _ h => h)
                obtain ⟨p1, p2, p3, p4⟩ := hF4'.ne
                have hb5 := hF4'.hb.upd hu5 (fun e => (p4 tb e).1 rfl)
                have hl5 := hF4'.hl.upd hu5 (fun e => (p4 tl e).2.1 rfl)
                have hf5 := hF4'.hf.upd hu5 (fun e => (p4 tf e).2.2 rfl)
                have hT5 := hT4.upd hu5 (fun e => own_ne how hT4 (by decide) e.symm)
                have hM5 := hM4.upd hu5 (hM4.ne_own how)
                have q5 := hl5.at_ 0
                have f5 := hl5.fz 0
                simp only [List.getElem?_cons_zero] at q5
                obtain ⟨W6, hW6⟩ : ∃ W6, W6 = w5.setCell ⟨tl, 0, none⟩ (.slice A5 (l4 + 1) d5) := ⟨_, rfl⟩
                have hs6 : Upd (fun g => g = tl) w5 W6 := by rw [hW6]; exact Upd.set (S := fun g => g = tl) (p := ⟨tl, 0, none⟩) (Upd.refl _ _) (.inl rfl) _
                have hro6 := hs6.own hro5 (fun g hg e => own_ne hro5 hl5 (by decide) (by rw [← e, hg]))
                have hF6 : FlS tb tb tl tf (some ad) n c (L4 ++ [⟨(i : Int) - (k : Int), (an : Int), ByteArray.empty⟩]) i (.slice A5 (l4 + 1) d5) W6 := by
                  refine ⟨hb5.upd hs6 p1, ?_, hf5.upd hs6 (fun e => p3 e.symm), ?_⟩
                  · rw [hW6]; have := hl5.set 0 (.slice A5 (l4 + 1) d5); simpa using this
                  · rw [tks_snoc, List.length_append, ← hl4e]; exact hro6
                have HF6 := Lib.hid hF6
                have HT6 := Lib.hid (hT5.upd hs6 hT1)
                have HM6 := Lib.hid (hM5.upd hs6 (hM5.ne_blk hl5))
                have HG6 := Lib.hid (show Grew w W6 from (((Upd.of_grew (S := fun g => tb ≤ g) hG4).trans (hu5.mono fun g _ hg => own_base how g hg)).trans (hs6.mono fun g _ e => by rw [e]; exact HAD.out.1)).grew (fun g hg h => by have := HTB.out; omega))
                have HW6 := Lib.hid hW6
                have HRUN := Lib.hid hrun5
                clear hF4 hfr4 hu4 hT4 hM4 hG4 how hF4' hge hrun5 hro5 hgr5 hat5 hu5 p1 p2 p3 p4 hb5 hl5 hf5 hT5 hM5 hW6 hs6 hro6 hF6 hl4e
                go_wp2_with (at_builtin; refine wpList_app rfl _ _ _ rfl rfl rfl HRUN.out ?_)
                rw [← HW6.out]
                clear q5 f5 c4
                go_loopw [8, 68] (fun iv jv wr => ∃ (j : Nat), iv = .int .i64 ((i + j : Nat) : Int) ∧ jv = .int .i64 (j : Int) ∧ j ≤ an ∧ FlS tb tb tl tf (some ad) n c (L4 ++ [⟨(i : Int) - (k : Int), (an : Int), ByteArray.empty⟩]) i (.slice A5 (l4 + 1) d5) wr ∧ Blk wr tm 60 [.map (some mb)] ∧ MapI wr Try.prog 62 3 mb (N + j) (notesM l M i j) ∧ Grew w wr) (fun _ jv _ => an - (intOf jv).toNat)
                case atStart => exact ⟨0, rfl, rfl, Nat.zero_le _, HF6.out, HT6.out, HM6.out, HG6.out⟩
                case round =>
                  obtain ⟨j, rfl, rfl, hj, hFj, hTj, hMj, hGj⟩ := hrel
                  obtain ⟨q1, q2, q3, q4⟩ := hFj.ne
                  by_cases hjl : j < an
                  · have b1 : decide ((j : Int) < (an : Int)) = true := decide_eq_true (by omega)
                    have b2 : decide (j < an) = true := decide_eq_true hjl
                    have HNJ := Lib.hid (note_c wr tb tm mb (N + j) (some ad) n c l (notesM l M i j) (i + j) (Kd.C_below HR.out hGj) HN.out hc HB.out (by omega) (by omega) hFj.hb hTj hMj (by have := HNN.out; omega))
                    have HNXJ := Lib.hid (show ∀ w'', Upd (fun g => g = mb) wr w'' → FlS tb tb tl tf (some ad) n c (L4 ++ [⟨(i : Int) - (k : Int), (an : Int), ByteArray.empty⟩]) i (.slice A5 (l4 + 1) d5) w'' ∧ Blk w'' tm 60 [.map (some mb)] ∧ Grew w w'' from fun w'' hu2 => by
                      refine ⟨hFj.upd hu2 (fun e => hMj.ne_blk hFj.hb e.symm) (fun e => hMj.ne_blk hFj.hl e.symm) (fun e => hMj.ne_blk hFj.hf e.symm) (fun k hk e => hMj.ne_own hFj.own (by rw [hk, e])), hTj.upd hu2 (fun e => hMj.ne_blk hTj e.symm), ?_⟩
                      have := HAD.out
                      rw [HTB.out] at this
                      exact ((Upd.of_grew (S := fun g => g = mb) hGj).trans hu2).grew (fun k hk e => by omega))
                    have e1 : ((i + j : Nat) : Int) + 1 = ((i + (j + 1) : Nat) : Int) := by omega
                    have HE1 := Lib.hid e1
                    have hwj : IntKind.i64.wrap (((i + j : Nat) : Int) + 1) = ((i + j : Nat) : Int) + 1 := by rw [IntWalk.i64_in _ (by omega)]
                    clear hFj hTj hMj hGj e1 q1 q2 q3 q4
                    go_wp2_with fail
                    refine HNJ.out.mono ?_
                    rintro e w7 ⟨_, rfl, ⟨rfl, hM7⟩, hu7⟩
                    obtain ⟨g1, g2, g3⟩ := HNXJ.out w7 hu7
                    have HM7 := Lib.hid hM7
                    have HG71 := Lib.hid g1
                    have HG72 := Lib.hid g2
                    clear hM7 hu7 g1 g2
                    go_wp2_with fail
                    go_roundw
                    case rel => exact ⟨j + 1, by congr 1, by go_num, by omega, HG71.out, HG72.out, HM7.out, g3⟩
                    case measure => simp [intOf]; omega
                  · obtain rfl : j = an := by omega
                    have b1 : decide ((j : Int) < (j : Int)) = false := decide_eq_false (by omega)
                    have b2 : decide (j < j) = false := decide_eq_false (by omega)
                    have q5 := hFj.hf.at_ 0
                    have f5 := hFj.hf.fz 0
                    simp only [List.getElem?_cons_zero] at q5
                    have hsU : Upd (fun g => g = tf) wr (wr.setCell ⟨tf, 0, none⟩ (.int .i64 ((i + j : Nat) : Int))) := Upd.set (S := fun g => g = tf) (p := ⟨tf, 0, none⟩) (Upd.refl _ _) (.inl rfl) _
                    have HF8 := Lib.hid (show FlS tb tb tl tf (some ad) n c (L4 ++ [⟨(i : Int) - (k : Int), (j : Int), ByteArray.empty⟩]) (i + j) (.slice A5 (l4 + 1) d5) (wr.setCell ⟨tf, 0, none⟩ (.int .i64 ((i + j : Nat) : Int))) from
                      ⟨hFj.hb.upd hsU q2, hFj.hl.upd hsU q3, by have := hFj.hf.set 0 (.int .i64 ((i + j : Nat) : Int)); simpa using this, hsU.own hFj.own (fun g hg e => (q4 g hg).2.2 e)⟩)
                    have HT8 := Lib.hid (hTj.upd hsU hT2)
                    have HM8 := Lib.hid (hMj.upd hsU (hMj.ne_blk hFj.hf))
                    have HG8 := Lib.hid (show Grew w (wr.setCell ⟨tf, 0, none⟩ (.int .i64 ((i + j : Nat) : Int))) from ((Upd.of_grew (S := fun g => g = tf) hGj).trans hsU).grew (fun g hg e => by have := HAD.out; have := HTB.out; omega))
                    clear hFj hTj hMj hGj q1 q2 q3 q4 hsU
                    go_wp2_with fail
                    go_roundw
                    case rel => exact ⟨i + j, i + j, N + j, _, _, _, rfl, HBK.out, by have := HNN.out; omega, HF8.out, HT8.out, HM8.out, HG8.out⟩
                    case measure => simp [intOf]; omega
          · have HLIT := Lib.hid (HLI.out.lit (by rw [HN.out]; exact hlt) (fun h k' hk hf => by
              rw [hMk] at hk
              obtain rfl : k = k' := by have := Option.some.inj hk; omega
              exact absurd hf hfar))
            have x4 : decide ((i : Int) - (k : Int) ≤ 65536) = false := decide_eq_false (by omega)
            clear hMk HLK hv0 hvi
            go_wp2_with fail
            apply region_grew [Is _, Is _, Is _, Is _, Is _, Is _, Is _, Is _, Is _, Is _, Is _, Is _, Is _] [([(4, none)], none), ([(1, none)], none), ([(8, none)], none), ([(8, none)], none), ([(29, some 3)], none), ([(27, some 1), (28, some 2), (30, some 4)], none), ([(31, some 5)], none), ([(32, some 6)], none), ([(26, some 0), (33, some 7)], none), ([(34, some 8)], none), ([(25, some 9)], none), ([(25, some 9)], none), ([(35, some 10)], none)] [(11, 12), (25, 9), (26, 0), (27, 1), (28, 2), (29, 3), (30, 4), (31, 5), (32, 6), (33, 7), (34, 8), (35, 10), (36, 11)] rfl (by kernel_rfl) (by kernel_rfl) (show Stable Grew _ from ⟨Is.stable _, Is.stable _, Is.stable _, Is.stable _, Is.stable _, Is.stable _, Is.stable _, Is.stable _, Is.stable _, Is.stable _, Is.stable _, Is.stable _, Is.stable _, trivial⟩)
            · show OpsHold _ _ _ _ _ _ _ _ _
              refine ⟨fun a_ wx hR hD K hK => ?_, ?_⟩
              · have hG : Grew wr wx := (Grew.drew _).trans hR
                simp [Deps, Dep, at_, Is] at hD
                have e_ := CM.out wx hG
                go_simp
                exact hK _ _ (Grew.refl _) rfl
              refine ⟨fun a_ wx hR hD K hK => ?_, ?_⟩
              · have hG : Grew wr wx := (Grew.drew _).trans hR
                simp [Deps, Dep, at_, Is] at hD
                have e_ := CB.out wx hG
                go_simp
                exact hK _ _ (Grew.refl _) rfl
              refine ⟨fun a_ wx hR hD K hK => ?_, ?_⟩
              · have hG : Grew wr wx := (Grew.drew _).trans hR
                simp [Deps, Dep, at_, Is] at hD
                go_simp
                exact hK _ _ (Grew.refl _) rfl
              refine ⟨fun a_ wx hR hD K hK => ?_, ?_⟩
              · have hG : Grew wr wx := (Grew.drew _).trans hR
                simp [Deps, Dep, at_, Is] at hD
                go_simp
                exact hK _ _ (Grew.refl _) rfl
              refine ⟨fun a_ wx hR hD K hK => ?_, ?_⟩
              · have hG : Grew wr wx := (Grew.drew _).trans hR
                simp [Deps, Dep, at_, Is] at hD
                go_simp
                exact hK _ _ (Grew.refl _) rfl
              refine ⟨fun a_ wx hR hD K hK => ?_, ?_⟩
              · have hG : Grew wr wx := (Grew.drew _).trans hR
                simp [Deps, Dep, at_, Is] at hD
                obtain ⟨hd0, hd1, hd2⟩ := hD
                go_simp
                exact hK _ _ (Grew.refl _) rfl
              refine ⟨fun a_ wx hR hD K hK => ?_, ?_⟩
              · have hG : Grew wr wx := (Grew.drew _).trans hR
                simp [Deps, Dep, at_, Is] at hD
                have e_ := run_arrayAt wx
                go_simp
                exact hK _ _ (Grew.refl _) rfl
              refine ⟨fun a_ wx hR hD K hK => ?_, ?_⟩
              · have hG : Grew wr wx := (Grew.drew _).trans hR
                simp [Deps, Dep, at_, Is] at hD
                have e0 := (KK.out wx hG).1
                have e1 := (KK.out wx hG).2.1
                have e2 := (KK.out wx hG).2.2
                go_simp
                exact hK _ _ (Grew.refl _) rfl
              refine ⟨fun a_ wx hR hD K hK => ?_, ?_⟩
              · have hG : Grew wr wx := (Grew.drew _).trans hR
                simp [Deps, Dep, at_, Is] at hD
                obtain ⟨hd0, hd1⟩ := hD
                have e_ := HLK2.out wx hG
                go_simp
                exact hK _ _ (Grew.refl _) rfl
              refine ⟨fun a_ wx hR hD K hK => ?_, ?_⟩
              · have hG : Grew wr wx := (Grew.drew _).trans hR
                simp [Deps, Dep, at_, Is] at hD
                go_simp
                exact hK _ _ (Grew.refl _) rfl
              refine ⟨fun a_ wx hR hD K hK => ?_, ?_⟩
              · have hG : Grew wr wx := (Grew.drew _).trans hR
                simp [Deps, Dep, at_, Is] at hD
                go_simp
                exact hK _ _ (Grew.refl _) rfl
              refine ⟨fun a_ wx hR hD K hK => ?_, ?_⟩
              · have hG : Grew wr wx := (Grew.drew _).trans hR
                simp [Deps, Dep, at_, Is] at hD
                go_simp
                exact hK _ _ (Grew.refl _) rfl
              refine ⟨fun a_ wx hR hD K hK => ?_, ?_⟩
              · have hG : Grew wr wx := (Grew.drew _).trans hR
                simp [Deps, Dep, at_, Is] at hD
                go_simp
                exact hK _ _ (Grew.refl _) rfl
              trivial
            · show EndHold _ _ _ _ _ _ _
              refine end_all (xs := [_, _, _, _, _, _, _, _, _, _, _, _, _]) ⟨rfl, rfl, rfl, rfl, rfl, rfl, rfl, rfl, rfl, rfl, rfl, rfl, rfl, trivial⟩ ?_
              rintro w2 hR1 -
              refine ⟨?_⟩
              have hG_w2 : Grew wr w2 := (Grew.drew _).trans hR1
              clear hR1
              simp only [Act.put, List.setIfInBounds_toArray, List.set_cons_succ, List.set_cons_zero, dropN, putEach]
              clear c1
              go_wp2_with fail
              refine (HNOTE.out w2 hG_w2).mono ?_
              rintro e w3 ⟨_, rfl, ⟨rfl, hM3⟩, hu3⟩
              obtain ⟨g1, g2, g3⟩ := HNX.out w2 w3 hG_w2 hu3
              have HM3 := Lib.hid hM3
              have HG1 := Lib.hid g1
              have HG2 := Lib.hid g2
              clear hM3 hu3 g1 g2
              go_wp2_with fail
              go_roundw
              case rel => exact ⟨i + 1, fr, N + 1, acc, noteM l M i, lv, by go_num, HLIT.out, by have := HNN.out; omega, HG1.out, HG2.out, HM3.out, g3⟩
              case measure => simp [intOf]; omega
      · have y3 : decide ((i : Int) + 3 ≤ (n : Int)) = false := decide_eq_false (by omega)
        have HLIT := Lib.hid (HLI.out.lit (by rw [HN.out]; exact hlt) (fun h => by rw [HN.out] at h; omega))
        go_wp2_with fail
        refine (HNOTE.out wr (Grew.refl _)).mono ?_
        rintro e w2 ⟨_, rfl, ⟨rfl, hM2⟩, hu2⟩
        obtain ⟨g1, g2, g3⟩ := HNX.out wr w2 (Grew.refl _) hu2
        have HM2 := Lib.hid hM2
        have HG1 := Lib.hid g1
        have HG2 := Lib.hid g2
        clear hM2 hu2 g1 g2 c1
        go_wp2_with fail
        go_roundw
        case rel => exact ⟨i + 1, fr, N + 1, acc, noteM l M i, lv, by go_num, HLIT.out, by have := HNN.out; omega, HG1.out, HG2.out, HM2.out, g3⟩
        case measure => simp [intOf]; omega
    · obtain rfl : i = n := by omega
      have y1 : decide ((i : Int) < (i : Int)) = false := decide_eq_false (by omega)
      have y2 : decide (i < i) = false := decide_eq_false (by omega)
      have HFLU := Lib.hid (flush_c w wr tb tb tl tf A i c l acc fr i lv HR.out HG.out HTB.out HN.out hc (by omega) (Nat.le_refl _) HLI.out.fi HF.out (by rw [HTB.out]; exact HG.out.size) (by have := HAL.out; omega) ⟨HAD.out.1, HAD.out.2.1⟩)
      have HDONE := Lib.hid (show Chosen l (acc ++ litsT l fr i (cntL fr i)) from by
        have := HLI.out
        rw [← HN.out] at this ⊢
        exact this.done HB.out)
      obtain ⟨L2, hL2⟩ : ∃ L2, L2 = acc ++ litsT l fr i (cntL fr i) := ⟨_, rfl⟩
      rw [← hL2] at HFLU HDONE
      clear hL2
      go_wp2_with fail
      refine HFLU.out.mono ?_
      rintro e w2 ⟨_, rfl, ⟨rfl, lv2, hF2, hfr2⟩, hu2⟩
      have c2 : w2.cell? ⟨tl, 0, none⟩ = some lv2 := by rw [hF2.hl.at_]; rfl
      obtain ⟨A2, d2, rfl⟩ := own_slice hF2.own
      have HOW := Lib.hid hF2.own
      have HG2 := Lib.hid (show Grew w w2 from ((Upd.of_grew (S := fun k => tb ≤ k) HG.out).trans (hu2.mono fun k _ hS => by
        rcases hS with h2 | h2 | h2
        · rw [h2]; exact HAD.out.1
        · rw [h2]; exact HAD.out.2.1
        · exact own_base HF.out.own _ h2)).grew (fun k hk h => by have := HTB.out; omega))
      clear hF2 hfr2 hu2 c1
      go_wp2_with fail
      go_ret
      exact ⟨_, rfl, ⟨_, HDONE.out, by have := HOW.out; rw [HTB.out] at this; exact this⟩, HG2.out⟩
end Go.Proofs.Ytehbebpemnanoaa.F

-- LzT
namespace Go.Proofs.Ytehbebpemnanoaa.F
open Go Go.RowKit Go.Proofs.YtehbebpemnanoaaW.PrintWords Go.Proofs.YtehbebpemnanoaaW.PrintLast Go.Proofs.YtehbebpemnanoaaW.PrintMore Go.Proofs.YtehbebpemnanoaaM Go.Proofs.YtehbebpemnanoaaR
attribute [local go_sem] max2_int min2_int max_two min_two
set_option linter.unusedSimpArgs false
set_option linter.unusedVariables false
set_option maxRecDepth 100000
/-- the tokens of packed bytes, if they are any -/
def tokensL (l : List Int) : Option (List Tk) := if (sizeL l).2 = 0 then tokP (sizeL l).1.toNat (l.length + 1) (l.drop (putL (sizeL l).1.toNat).length) 0 [] else none
def TokR (base : Nat) : Option (List Tk) → World → Value → Prop
  | none => fun w v => v = .tuple #[.slice none 0 0, .int .i64 4]
  | some L => fun w v => ∃ v0, v = .tuple #[v0, .int .i64 0] ∧ w.ownsRow base 47 3 v0 L.length (tks L)
theorem sizeL_cases {l : List Int} (hb : ∀ x ∈ l, 0 ≤ x ∧ x < 256) : ((sizeL l).1 = 0 ∧ (sizeL l).2 = 4) ∨ ∃ n : Nat, n ≤ 65536 ∧ sizeL l = ((n : Int), 0) ∧ (putL n).length ≤ l.length := by
  unfold sizeL
  by_cases h : (getL l 0).2.2 = 0 ∧ (getL l 0).1 ≤ 65536
  · rw [if_pos h]
    obtain ⟨m, n, hm, hn, hq, hle, hs⟩ := getL_ok hb h.1
    right
    obtain rfl : m = 0 := by omega
    refine ⟨n, by have := h.2; rw [hq] at this; simp at this; omega, by rw [hq], by omega⟩
  · rw [if_neg h]
    exact .inl ⟨rfl, rfl⟩
set_option maxHeartbeats 8000000 in
theorem tokens_c (w : World) (A : Option Addr) (c : Nat) (l : List Int) (hr : Kd.C (Kd.int .u8) w A l.length l) (hc : l.length ≤ c) (hl : l.length ≤ 1000000) (hb : ∀ x ∈ l, 0 ≤ x ∧ x < 256) :
    Calls Try.prog 13 #[.slice A l.length c] w (Tells w (TokR w.heap.size (tokensL l))) := by
  have H1 := Lib.hid (lsize_c w A c l hr hc (by omega) hb)
  rcases sizeL_cases hb with ⟨h1, h2⟩ | ⟨n, hn, hsz, hpl⟩
  · have hres : tokensL l = none := by unfold tokensL; rw [if_neg (by rw [h2]; decide)]
    rw [hres]
    rw [h1, h2] at H1
    clear h1 h2 hres hr hb
    go_enter Try.func13, Try.ntmps13
    go_wp2_with fail
    refine H1.out.mono ?_
    rintro e w1 ⟨_, rfl, rfl, hg1⟩
    go_wp2_with fail
    go_ret2
    exact ⟨_, rfl, rfl, hg1⟩
  · have hres : tokensL l = tokP n (l.length + 1) (l.drop (putL n).length) 0 [] := by unfold tokensL; rw [hsz]; rw [if_pos rfl, Int.toNat_natCast]
    rw [hsz] at H1
    obtain ⟨res, hre⟩ : ∃ res, res = tokensL l := ⟨_, rfl⟩
    rw [← hre]
    have HRE := Lib.hid (hre.trans hres)
    have H2 := Lib.hid (fun w => size_c n w (by omega))
    obtain ⟨pl, hpe⟩ : ∃ pl, pl = (putL n).length := ⟨_, rfl⟩
    rw [← hpe] at H2 HRE hpl
    obtain ⟨Ln, hLn⟩ : ∃ Ln, Ln = l.length := ⟨_, rfl⟩
    have HLN := Lib.hid hLn
    have HR := Lib.hid hr
    have HB := Lib.hid hb
    have HRI := Lib.hid (show ReadsInt w .u8 A l.length l from reads_of hr)
    rw [← hLn] at H1 hc hl hpl HRE ⊢
    have hmw : IntKind.u64.wrap (n : Int) = (n : Int) := by rw [u64_wrap]; omega
    clear hre hres hsz hpe hr hb hLn
    go_enter Try.func13, Try.ntmps13
    go_wp2_with fail
    refine H1.out.mono ?_
    rintro e w1 ⟨_, rfl, rfl, hg1⟩
    go_wp2_with fail
    refine (H2.out w1).mono ?_
    rintro e w2 ⟨_, rfl, rfl, hg2⟩
    have hg12 := hg1.trans hg2
    go_wp2_with fail
    go_loopw [6, 7, 8] (fun ov tv av wr => ∃ (a told f : Nat) (acc : List Tk), av = .int .i64 (a : Int) ∧ tv = .int .i64 (told : Int) ∧ a ≤ Ln ∧ told ≤ n ∧ Ln - a < f ∧ acc.length ≤ a ∧ res = tokP n f (l.drop a) told acc ∧ wr.ownsRow w.heap.size 47 3 ov acc.length (tks acc) ∧ Grew w wr) (fun _ _ av _ => Ln - (intOf av).toNat)
    case atStart => exact ⟨pl, 0, Ln + 1, [], rfl, rfl, hpl, Nat.zero_le _, by omega, Nat.zero_le _, HRE.out, World.ownsRow_nil _ _ _ _, hg12⟩
    case round =>
      obtain ⟨a, told, f, acc, rfl, rfl, ha, ht, hf, hac, hre, hown, hgr⟩ := hrel
      obtain ⟨f, rfl⟩ : ∃ f', f = f' + 1 := ⟨f - 1, by omega⟩
      by_cases hlt : a < Ln
      · have hal : a < l.length := by rw [← HLN.out]; exact hlt
        obtain ⟨X, hX⟩ := Int.eq_ofNat_of_zero_le (HB.out l[a] (List.getElem_mem _)).1
        have hX2 : X < 256 := by have := (HB.out l[a] (List.getElem_mem _)).2; omega
        rw [List.drop_eq_getElem_cons hal, hX] at hre
        simp only [tokP] at hre
        rw [Int.toNat_natCast, List.length_drop, ← HLN.out] at hre
        obtain ⟨ad, hA, k0⟩ := row_cell (Kd.C_below HR.out hgr) a hal
        rw [show l.getD a 0 = (X : Int) from by simp [List.getD, hal, hX]] at k0
        subst hA
        have m1 : decide ((a : Int) < (Ln : Int)) = true := decide_eq_true (by omega)
        have m2 : decide (a < Ln) = true := decide_eq_true hlt
        have i1 : (a : Int) < (Ln : Int) := by omega
        obtain ⟨Ao, co, rfl⟩ := own_slice hown
        have HO := Lib.hid hown
        have HG := Lib.hid hgr
        have hlr := own_lt hown
        clear hX hown hgr hal
        by_cases hx : X < 128
        · have x1 : decide ((X : Int) < 128) = true := decide_eq_true (by omega)
          have x2 : decide (X < 128) = true := decide_eq_true hx
          rw [if_pos (by omega)] at hre
          by_cases hs : Ln - (a + 1) < X + 1
          · rw [if_pos hs] at hre
            subst hre
            have y1 : decide ((Ln : Int) - ((a : Int) + 1) < (X : Int) + 1) = true := decide_eq_true (by omega)
            go_wp2_with fail
            go_ret2
            exact ⟨_, rfl, rfl, HG.out.trans (Grew.alloc _ _)⟩
          · rw [if_neg hs] at hre
            have y1 : decide ((Ln : Int) - ((a : Int) + 1) < (X : Int) + 1) = false := decide_eq_false (by omega)
            obtain ⟨S, hS⟩ : ∃ S, S = strOfNums ((l.drop (a + 1)).take (X + 1)) := ⟨_, rfl⟩
            have hSl : ((l.drop (a + 1)).take (X + 1)).length = X + 1 := by rw [List.length_take, List.length_drop, ← HLN.out]; omega
            rw [← hS] at hre
            have hg2 : Grew wr (wr.alloc (.cells #[.int .i64 0, .int .i64 0, .string ⟨#[]⟩] 47)) := Grew.alloc _ _
            obtain ⟨A', c', hv, _, hC⟩ := mid_row (s := (l.drop (a + 1)).take (X + 1)) (m := a + 1) (L := X + 1) (Kd.C_below HR.out (HG.out.trans hg2)) (by rw [← HLN.out]; exact hc) (by rw [← HLN.out]; omega) (by rw [List.drop_take]; congr 1; omega) hSl
            rw [hSl] at hv hC
            have hcv := Kd.C_string (P := Try.prog) (c := c') Try.underlying25 Try.underlying5 Try.underlying9 hC
            rw [← hv, ← hS, if_neg (by omega), show X + 1 = a + 1 + X - a from by omega, show Option.map (fun x => x.add (a + 1)) (some ad) = some ⟨ad.block, ad.off + (a + 1), none⟩ from by simp [Addr.add]] at hcv
            have HCV := Lib.hid hcv
            have HGW := Lib.hid hg2
            clear hv hC hcv hSl hS hg2
            have z1 : (a : Int) + 1 + (X : Int) + 1 ≤ (c : Int) := by omega
            by_cases hs2 : n < told + (X + 1)
            · rw [if_pos hs2] at hre
              subst hre
              have y2 : decide ((n : Int) < (told : Int) + ((X : Int) + 1)) = true := decide_eq_true (by omega)
              have hcv := HCV.out
              go_wp2_with fail
              go_ret2
              exact ⟨_, rfl, rfl, HG.out.trans (Grew.alloc _ _)⟩
            · rw [if_neg hs2] at hre
              have y2 : decide ((n : Int) < (told : Int) + ((X : Int) + 1)) = false := decide_eq_false (by omega)
              have hcv := HCV.out
              have HRE2 := Lib.hid hre
              have HX := Lib.hid (show acc.length ≤ 1000000 from by omega)
              clear hre hlr
              go_wp2_with (at_builtin; go_loud (refine print_append_cells (w0 := w) w.heap.size rfl (.tmp 96) (.tmp 98) 29 47 (.agg #[.int .i64 0, .int .i64 0, .string ⟨#[]⟩]) 3 32 rfl Try.underlying29 infoTk rfl (by decide) (by decide) _ _ _ [.int .i64 0, .int .i64 0, .string S] rfl (by simp [Act.eval]) rfl (by intro v hv; simp at hv; rcases hv with rfl | rfl | rfl <;> rfl) (pw_own_below HO.out (Grew.alloc _ _)) (HG.out.trans (Grew.alloc _ _)) (HG.out.trans (Grew.alloc _ _)).size (by have := HX.out; omega) ?_; intro v1 w4 hown4 hgr4 hgb hat))
              go_roundw
              case rel =>
                refine ⟨a + 1 + (X + 1), told + (X + 1), f, acc ++ [⟨0, 0, S⟩], by go_num, by go_num, by omega, by omega, by omega, by simp; omega, ?_, ?_, hgr4⟩
                · rw [HRE2.out, List.drop_drop]
                · rw [List.length_append, List.length_singleton, tks_snoc]
                  exact hown4
              case measure => simp [intOf]; omega
        · have x1 : decide ((X : Int) < 128) = false := decide_eq_false (by omega)
          have x2 : decide (X < 128) = false := decide_eq_false hx
          rw [if_neg (by omega)] at hre
          by_cases hs : Ln - (a + 1) < 2
          · have hr0 : res = none := by
              have hl1 : (l.drop (a + 1)).length < 2 := by rw [List.length_drop, ← HLN.out]; exact hs
              rw [hre]
              rcases hq : l.drop (a + 1) with _ | ⟨x, _ | ⟨y, r⟩⟩
              · rfl
              · rfl
              · rw [hq] at hl1; simp at hl1; omega
            subst hr0
            have y1 : decide ((Ln : Int) - ((a : Int) + 1) < 2) = true := decide_eq_true (by omega)
            clear hre
            go_wp2_with fail
            go_ret2
            exact ⟨_, rfl, rfl, HG.out.trans (Grew.alloc _ _)⟩
          · have y1 : decide ((Ln : Int) - ((a : Int) + 1) < 2) = false := decide_eq_false (by omega)
            have h1l : a + 1 < l.length := by rw [← HLN.out]; omega
            have h2l : a + 1 + 1 < l.length := by rw [← HLN.out]; omega
            rw [List.drop_eq_getElem_cons h1l, List.drop_eq_getElem_cons h2l] at hre
            obtain ⟨Y, hY⟩ := Int.eq_ofNat_of_zero_le (HB.out l[a + 1] (List.getElem_mem _)).1
            obtain ⟨Z, hZ⟩ := Int.eq_ofNat_of_zero_le (HB.out l[a + 1 + 1] (List.getElem_mem _)).1
            have hY2 : Y < 256 := by have := (HB.out l[a + 1] (List.getElem_mem _)).2; omega
            have hZ2 : Z < 256 := by have := (HB.out l[a + 1 + 1] (List.getElem_mem _)).2; omega
            obtain ⟨ad2, hA2, k1⟩ := row_cell (Kd.C_below HR.out HG.out) (a + 1) h1l
            obtain rfl := Option.some.inj hA2
            obtain ⟨ad3, hA3, k2⟩ := row_cell (Kd.C_below HR.out HG.out) (a + 1 + 1) h2l
            obtain rfl := Option.some.inj hA3
            rw [show l.getD (a + 1) 0 = (Y : Int) from by simp [List.getD, h1l, hY]] at k1
            rw [show l.getD (a + 1 + 1) 0 = (Z : Int) from by simp [List.getD, h2l, hZ]] at k2
            rw [hY, hZ] at hre
            simp only at hre
            rw [show ((X : Int) - 125).toNat = X - 125 from by omega] at hre
            obtain ⟨W2, hW2⟩ : ∃ W2, W2 = wr.alloc (.cells #[.int .i64 0, .int .i64 0, .string ⟨#[]⟩] 47) := ⟨_, rfl⟩
            have hg2 : Grew wr W2 := by rw [hW2]; exact Grew.alloc _ _
            obtain ⟨g, hg⟩ : ∃ g, g = wr.heap.size := ⟨_, rfl⟩
            have hbl : Blk W2 g 47 [.int .i64 0, .int .i64 0, .string ⟨#[]⟩] := by rw [hW2, hg]; exact Blk.new wr _ _
            have HBL := Lib.hid hbl
            have HGE := Lib.hid hg
            have HG2 := Lib.hid (HG.out.trans hg2)
            have HO2 := Lib.hid (pw_own_below HO.out hg2)
            have hlg : ∀ k, (Value.slice Ao acc.length co).ownBlock = some k → k < g := by rw [hg]; exact hlr
            rw [show ad.add (a + 1) = ⟨ad.block, ad.off + (a + 1), none⟩ from by simp [Addr.add]] at k1
            rw [show ad.add (a + 1 + 1) = ⟨ad.block, ad.off + (a + 1 + 1), none⟩ from by simp [Addr.add]] at k2
            have K1 := Lib.hid (fun wx (h : Grew W2 wx) => pw_cell_below (hg2.trans h) k1)
            have K2 := Lib.hid (fun wx (h : Grew W2 wx) => pw_cell_below (hg2.trans h) k2)
            have HWE := Lib.hid hW2
            have HRE2 := Lib.hid hre
            clear hY hZ k1 k2 hre hW2 hg2 h1l h2l hbl hg hlr
            go_wp2_with fail
            rw [← HWE.out, ← HGE.out]
            have w1a : (0 : Int) ≤ (a : Int) + 1 := by omega
            have w1b : (a : Int) + 1 < (Ln : Int) := by omega
            have w2 : IntKind.i64.wrap ((a : Int) + 1 + 1) = (a : Int) + 1 + 1 := by rw [IntWalk.i64_in _ (by omega)]
            have w2a : (0 : Int) ≤ (a : Int) + 1 + 1 := by omega
            have w2b : (a : Int) + 1 + 1 < (Ln : Int) := by omega
            have w2c : ((a : Int) + 1 + 1).toNat = a + 1 + 1 := by omega
            have w3 : IntKind.i64.wrap ((Y : Int) * 256) = (Y : Int) * 256 := by rw [IntWalk.i64_in _ (by omega)]
            have w4 : IntKind.i64.wrap ((Y : Int) * 256 + (Z : Int)) = (Y : Int) * 256 + (Z : Int) := by rw [IntWalk.i64_in _ (by omega)]
            have w5 : IntKind.i64.wrap ((Y : Int) * 256 + (Z : Int) + 1) = (Y : Int) * 256 + (Z : Int) + 1 := by rw [IntWalk.i64_in _ (by omega)]
            have w6 : IntKind.i64.wrap ((X : Int) - 128) = (X : Int) - 128 := by rw [IntWalk.i64_in _ (by omega)]
            have w7 : IntKind.i64.wrap ((X : Int) - 128 + 3) = (X : Int) - 128 + 3 := by rw [IntWalk.i64_in _ (by omega)]
            apply region_grew [Is _, Is _, Is _, Is _, Is _, Is _, Is _, Is _, Is _, Is _, Is _, Is _, Is _, Is _, Is _, Is _, Is _] [([(0, none)], none), ([(8, none)], none), ([(65, some 0), (66, some 1)], none), ([(67, some 2)], none), ([(68, some 3)], none), ([(69, some 4)], none), ([(0, none)], none), ([(8, none)], none), ([(72, some 7)], none), ([(71, some 6), (73, some 8)], none), ([(74, some 9)], none), ([(75, some 10)], none), ([(70, some 5), (76, some 11)], none), ([(77, some 12)], none), ([(9, none)], none), ([(79, some 14)], none), ([(80, some 15)], none)] [(65, 0), (66, 1), (67, 2), (68, 3), (69, 4), (70, 5), (71, 6), (72, 7), (73, 8), (74, 9), (75, 10), (76, 11), (77, 12), (78, 13), (79, 14), (80, 15), (81, 16)] rfl (by kernel_rfl) (by kernel_rfl) (show Stable Grew _ from ⟨Is.stable _, Is.stable _, Is.stable _, Is.stable _, Is.stable _, Is.stable _, Is.stable _, Is.stable _, Is.stable _, Is.stable _, Is.stable _, Is.stable _, Is.stable _, Is.stable _, Is.stable _, Is.stable _, Is.stable _, trivial⟩)
            · show OpsHold _ _ _ _ _ _ _ _ _
              refine ⟨fun a_ wx hR hD K hK => ?_, ?_⟩
              · have hG : Grew W2 wx := (Grew.drew _).trans hR
                simp [Deps, Dep, at_, Is] at hD
                go_simp
                exact hK _ _ (Grew.refl _) rfl
              refine ⟨fun a_ wx hR hD K hK => ?_, ?_⟩
              · have hG : Grew W2 wx := (Grew.drew _).trans hR
                simp [Deps, Dep, at_, Is] at hD
                go_simp
                exact hK _ _ (Grew.refl _) rfl
              refine ⟨fun a_ wx hR hD K hK => ?_, ?_⟩
              · have hG : Grew W2 wx := (Grew.drew _).trans hR
                simp [Deps, Dep, at_, Is] at hD
                obtain ⟨hd0, hd1⟩ := hD
                go_simp
                exact hK _ _ (Grew.refl _) rfl
              refine ⟨fun a_ wx hR hD K hK => ?_, ?_⟩
              · have hG : Grew W2 wx := (Grew.drew _).trans hR
                simp [Deps, Dep, at_, Is] at hD
                have e_ := K1.out wx hG
                go_simp
                exact hK _ _ (Grew.refl _) rfl
              refine ⟨fun a_ wx hR hD K hK => ?_, ?_⟩
              · have hG : Grew W2 wx := (Grew.drew _).trans hR
                simp [Deps, Dep, at_, Is] at hD
                go_simp
                exact hK _ _ (Grew.refl _) rfl
              refine ⟨fun a_ wx hR hD K hK => ?_, ?_⟩
              · have hG : Grew W2 wx := (Grew.drew _).trans hR
                simp [Deps, Dep, at_, Is] at hD
                go_simp
                exact hK _ _ (Grew.refl _) rfl
              refine ⟨fun a_ wx hR hD K hK => ?_, ?_⟩
              · have hG : Grew W2 wx := (Grew.drew _).trans hR
                simp [Deps, Dep, at_, Is] at hD
                go_simp
                exact hK _ _ (Grew.refl _) rfl
              refine ⟨fun a_ wx hR hD K hK => ?_, ?_⟩
              · have hG : Grew W2 wx := (Grew.drew _).trans hR
                simp [Deps, Dep, at_, Is] at hD
                go_simp
                exact hK _ _ (Grew.refl _) rfl
              refine ⟨fun a_ wx hR hD K hK => ?_, ?_⟩
              · have hG : Grew W2 wx := (Grew.drew _).trans hR
                simp [Deps, Dep, at_, Is] at hD
                go_simp
                exact hK _ _ (Grew.refl _) rfl
              refine ⟨fun a_ wx hR hD K hK => ?_, ?_⟩
              · have hG : Grew W2 wx := (Grew.drew _).trans hR
                simp [Deps, Dep, at_, Is] at hD
                obtain ⟨hd0, hd1⟩ := hD
                go_simp
                exact hK _ _ (Grew.refl _) rfl
              refine ⟨fun a_ wx hR hD K hK => ?_, ?_⟩
              · have hG : Grew W2 wx := (Grew.drew _).trans hR
                simp [Deps, Dep, at_, Is] at hD
                have e_ := K2.out wx hG
                go_simp
                exact hK _ _ (Grew.refl _) rfl
              refine ⟨fun a_ wx hR hD K hK => ?_, ?_⟩
              · have hG : Grew W2 wx := (Grew.drew _).trans hR
                simp [Deps, Dep, at_, Is] at hD
                go_simp
                exact hK _ _ (Grew.refl _) rfl
              refine ⟨fun a_ wx hR hD K hK => ?_, ?_⟩
              · have hG : Grew W2 wx := (Grew.drew _).trans hR
                simp [Deps, Dep, at_, Is] at hD
                obtain ⟨hd0, hd1⟩ := hD
                go_simp
                exact hK _ _ (Grew.refl _) rfl
              refine ⟨fun a_ wx hR hD K hK => ?_, ?_⟩
              · have hG : Grew W2 wx := (Grew.drew _).trans hR
                simp [Deps, Dep, at_, Is] at hD
                go_simp
                exact hK _ _ (Grew.refl _) rfl
              refine ⟨fun a_ wx hR hD K hK => ?_, ?_⟩
              · have hG : Grew W2 wx := (Grew.drew _).trans hR
                simp [Deps, Dep, at_, Is] at hD
                go_simp
                exact hK _ _ (Grew.refl _) rfl
              refine ⟨fun a_ wx hR hD K hK => ?_, ?_⟩
              · have hG : Grew W2 wx := (Grew.drew _).trans hR
                simp [Deps, Dep, at_, Is] at hD
                go_simp
                exact hK _ _ (Grew.refl _) rfl
              refine ⟨fun a_ wx hR hD K hK => ?_, ?_⟩
              · have hG : Grew W2 wx := (Grew.drew _).trans hR
                simp [Deps, Dep, at_, Is] at hD
                go_simp
                exact hK _ _ (Grew.refl _) rfl
              trivial
            · show EndHold _ _ _ _ _ _ _
              refine end_all (xs := [_, _, _, _, _, _, _, _, _, _, _, _, _, _, _, _, _]) ⟨rfl, rfl, rfl, rfl, rfl, rfl, rfl, rfl, rfl, rfl, rfl, rfl, rfl, rfl, rfl, rfl, rfl, trivial⟩ ?_
              rintro w3 hR1 -
              refine ⟨?_⟩
              have hG_w3 : Grew W2 w3 := (Grew.drew _).trans hR1
              clear hR1
              simp only [Act.put, List.setIfInBounds_toArray, List.set_cons_succ, List.set_cons_zero, dropN, putEach]
              have hb3 := HBL.out.grew hG_w3
              have q0 := hb3.at_ 0
              have q1 := hb3.at_ 1
              have q2 := hb3.at_ 2
              have f0 := hb3.fz 0
              have f1 := hb3.fz 1
              have f2 := hb3.fz 2
              simp only [List.getElem?_cons_succ, List.getElem?_cons_zero] at q0 q1 q2
              have hsU : Upd (fun k => k = g) w3 (((w3.setCell ⟨g, 0, none⟩ (.int .i64 ((Y : Int) * 256 + (Z : Int) + 1))).setCell ⟨g, 1, none⟩ (.int .i64 ((X : Int) - 128 + 3))).setCell ⟨g, 2, none⟩ (.string ⟨#[]⟩)) :=
                Upd.set (S := fun k => k = g) (p := ⟨g, 2, none⟩) (Upd.set (S := fun k => k = g) (p := ⟨g, 1, none⟩) (Upd.set (S := fun k => k = g) (p := ⟨g, 0, none⟩) (Upd.refl _ _) (.inl rfl) _) (.inl rfl) _) (.inl rfl) _
              have hgw : w.heap.size ≤ g := by rw [HGE.out]; exact HG.out.size
              have hg4 : Grew w (((w3.setCell ⟨g, 0, none⟩ (.int .i64 ((Y : Int) * 256 + (Z : Int) + 1))).setCell ⟨g, 1, none⟩ (.int .i64 ((X : Int) - 128 + 3))).setCell ⟨g, 2, none⟩ (.string ⟨#[]⟩)) :=
                ((Upd.of_grew (S := fun k => k = g) (HG2.out.trans hG_w3)).trans hsU).grew (fun i hi e => by omega)
              have ho4 := hsU.own (pw_own_below HO2.out hG_w3) (fun k hk e => by have := hlg k hk; omega)
              have HG4 := Lib.hid hg4
              have HO4 := Lib.hid ho4
              have HX := Lib.hid (show acc.length ≤ 1000000 from by omega)
              have hre := HRE2.out
              clear hb3 hsU hgw hg4 ho4 hlg hG_w3 HBL
              by_cases hs1 : (told : Int) < (Y : Int) * 256 + (Z : Int) + 1
              · rw [if_pos hs1] at hre
                subst hre
                have y3 : decide ((told : Int) < (Y : Int) * 256 + (Z : Int) + 1) = true := decide_eq_true hs1
                go_wp2_with fail
                go_ret2
                exact ⟨_, rfl, rfl, HG4.out⟩
              · rw [if_neg hs1] at hre
                have y3 : decide ((told : Int) < (Y : Int) * 256 + (Z : Int) + 1) = false := decide_eq_false hs1
                by_cases hs2 : n < told + (X - 125)
                · rw [if_pos hs2] at hre
                  subst hre
                  have y4 : decide ((n : Int) < (told : Int) + ((X : Int) - 128 + 3)) = true := decide_eq_true (by omega)
                  go_wp2_with fail
                  go_ret2
                  exact ⟨_, rfl, rfl, HG4.out⟩
                · rw [if_neg hs2] at hre
                  have y4 : decide ((n : Int) < (told : Int) + ((X : Int) - 128 + 3)) = false := decide_eq_false (by omega)
                  have HRE3 := Lib.hid hre
                  clear hre
                  go_wp2_with (at_builtin; go_loud (refine print_append_cells (w0 := w) w.heap.size rfl (.tmp 96) (.tmp 98) 29 47 (.agg #[.int .i64 0, .int .i64 0, .string ⟨#[]⟩]) 3 32 rfl Try.underlying29 infoTk rfl (by decide) (by decide) _ _ _ [.int .i64 ((Y : Int) * 256 + (Z : Int) + 1), .int .i64 ((X : Int) - 128 + 3), .string ⟨#[]⟩] rfl (by simp [Act.eval, World.setCell]) rfl (by intro v hv; simp at hv; rcases hv with rfl | rfl | rfl <;> rfl) HO4.out HG4.out HG4.out.size (by have := HX.out; omega) ?_; intro v1 w5 hown5 hgr5 hgb hat))
                  go_roundw
                  case rel =>
                    refine ⟨a + 1 + 2, told + (X - 125), f, acc ++ [⟨(Y : Int) * 256 + (Z : Int) + 1, (X : Int) - 125, ByteArray.empty⟩], by go_num, by congr 1; omega, by omega, by omega, by omega, by simp; omega, HRE3.out, ?_, hgr5⟩
                    rw [List.length_append, List.length_singleton, tks_snoc]
                    rw [show (X : Int) - 128 + 3 = (X : Int) - 125 from by omega] at hown5
                    exact hown5
                  case measure => simp [intOf]; omega
      · obtain rfl : a = Ln := by omega
        have m1 : decide ((a : Int) < (a : Int)) = false := decide_eq_false (by omega)
        have m2 : decide (a < a) = false := decide_eq_false (by omega)
        have hde : l.drop a = [] := List.drop_eq_nil_of_le (by rw [HLN.out]; exact Nat.le_refl _)
        rw [hde] at hre
        simp only [tokP] at hre
        by_cases hte : told = n
        · rw [if_pos hte] at hre
          subst hte
          subst hre
          have y1 : decide ((told : Int) = (told : Int)) = true := by simp
          have HO := Lib.hid hown
          clear hown hde
          go_wp2_with fail
          go_ret2
          exact ⟨_, rfl, ⟨_, rfl, HO.out⟩, hgr⟩
        · rw [if_neg hte] at hre
          subst hre
          have y1 : decide ((told : Int) = (n : Int)) = false := decide_eq_false (by omega)
          have y2 : ((told : Int) == (n : Int)) = false := by simp; omega
          have y3 : ((told : Int) != (n : Int)) = true := by simp; omega
          clear hde
          go_wp2_with fail
          go_ret2
          exact ⟨_, rfl, rfl, hgr⟩
end Go.Proofs.Ytehbebpemnanoaa.F

-- LzU
namespace Go.Proofs.Ytehbebpemnanoaa.F
open Go Go.RowKit Go.Proofs.YtehbebpemnanoaaW.PrintWords Go.Proofs.YtehbebpemnanoaaW.PrintLast Go.Proofs.YtehbebpemnanoaaW.PrintMore Go.Proofs.YtehbebpemnanoaaM Go.Proofs.YtehbebpemnanoaaR
attribute [local go_sem] max2_int min2_int max_two min_two
set_option linter.unusedSimpArgs false
set_option linter.unusedVariables false
set_option maxRecDepth 100000
theorem tokP_ok (size : Nat) : ∀ (f : Nat) (r : List Int) (told : Nat) (acc L : List Tk), (∀ x ∈ r, 0 ≤ x ∧ x < 256) → tokP size f r told acc = some L → ∃ L', L = acc ++ L' ∧ goodL told L' ∧ told + tellL L' = size
  | 0, r, told, acc, L, hb, h => by cases h
  | f + 1, [], told, acc, L, hb, h => by
    simp only [tokP] at h
    by_cases ht : told = size
    · rw [if_pos ht] at h
      obtain rfl := Option.some.inj h
      exact ⟨[], by simp, trivial, by simp [tellL, ht]⟩
    · rw [if_neg ht] at h; cases h
  | f + 1, n :: r, told, acc, L, hb, h => by
    have hn := hb n (by simp)
    have hbr : ∀ x ∈ r, 0 ≤ x ∧ x < 256 := fun x hx => hb x (by simp [hx])
    simp only [tokP] at h
    by_cases h1 : n < 128
    · rw [if_pos h1] at h
      by_cases h2 : r.length < n.toNat + 1
      · rw [if_pos h2] at h; cases h
      · rw [if_neg h2] at h
        by_cases h3 : size < told + (n.toNat + 1)
        · rw [if_pos h3] at h; cases h
        · rw [if_neg h3] at h
          obtain ⟨L', h4, h5, h6⟩ := tokP_ok size f _ _ _ L (fun x hx => hbr x (List.mem_of_mem_drop hx)) h
          have hsz : (strOfNums (r.take (n.toNat + 1))).size = n.toNat + 1 := by rw [str_size, List.length_take]; omega
          have htl : tellT ⟨0, 0, strOfNums (r.take (n.toNat + 1))⟩ = n.toNat + 1 := by unfold tellT; simp [hsz]
          refine ⟨⟨0, 0, strOfNums (r.take (n.toNat + 1))⟩ :: L', by rw [h4]; simp, ⟨?_, by show (0 : Int) ≤ _; omega, by rw [htl]; exact h5⟩, by rw [tellL_cons, htl]; omega⟩
          unfold rightT
          simp only [hsz]
          rw [if_neg (by omega)]
          simp; omega
    · rw [if_neg h1] at h
      rcases r with _ | ⟨x, _ | ⟨y, r⟩⟩
      · cases h
      · cases h
      · simp only at h
        have hx := hbr x (by simp)
        have hy := hbr y (by simp)
        by_cases h2 : (told : Int) < x * 256 + y + 1
        · rw [if_pos h2] at h; cases h
        · rw [if_neg h2] at h
          by_cases h3 : size < told + (n - 125).toNat
          · rw [if_pos h3] at h; cases h
          · rw [if_neg h3] at h
            obtain ⟨L', h4, h5, h6⟩ := tokP_ok size f _ _ _ L (fun z hz => hbr z (by simp [hz])) h
            have htl : tellT ⟨x * 256 + y + 1, n - 125, ByteArray.empty⟩ = (n - 125).toNat := by
              show ByteArray.empty.size + (n - 125).toNat = _
              rw [show ByteArray.empty.size = 0 from rfl, Nat.zero_add]
            refine ⟨⟨x * 256 + y + 1, n - 125, ByteArray.empty⟩ :: L', by rw [h4]; simp, ⟨?_, by show x * 256 + y + 1 ≤ _; omega, by rw [htl]; exact h5⟩, by rw [tellL_cons, htl]; omega⟩
            unfold rightT
            rw [if_pos (by rfl)]
            simp; omega
theorem tokensL_ok {l : List Int} {L : List Tk} (hb : ∀ x ∈ l, 0 ≤ x ∧ x < 256) (h : tokensL l = some L) : ∃ n : Nat, sizeL l = ((n : Int), 0) ∧ n ≤ 65536 ∧ goodL 0 L ∧ tellL L = n := by
  unfold tokensL at h
  rcases sizeL_cases hb with ⟨h1, h2⟩ | ⟨n, hn, hsz, hpl⟩
  · rw [if_neg (by rw [h2]; decide)] at h; cases h
  · rw [hsz] at h
    rw [if_pos rfl, Int.toNat_natCast] at h
    obtain ⟨L', h4, h5, h6⟩ := tokP_ok n _ _ _ _ L (fun x hx => hb x (List.mem_of_mem_drop hx)) h
    rw [List.nil_append] at h4
    subst h4
    exact ⟨n, hsz, hn, h5, by omega⟩
/-- what Unpack returns -/
def unpackV (base : Nat) (l : List Int) (most : Int) : World → Value → Prop :=
  if (sizeL l).2 ≠ 0 then fun w v => v = .tuple #[.slice none 0 0, .int .i64 4]
  else if max most 0 < (sizeL l).1 then fun w v => v = .tuple #[.slice none 0 0, .int .i64 2]
  else match tokensL l with
    | none => fun w v => v = .tuple #[.slice none 0 0, .int .i64 4]
    | some L => fun w v => ∃ v0, v = .tuple #[v0, .int .i64 0] ∧ Own8 base (expL L) w v0
set_option maxHeartbeats 8000000 in
theorem unpack_c (w : World) (A : Option Addr) (c : Nat) (l : List Int) (most : Int) (hr : Kd.C (Kd.int .u8) w A l.length l) (hc : l.length ≤ c) (hl : l.length ≤ 1000000) (hb : ∀ x ∈ l, 0 ≤ x ∧ x < 256) (hm0 : -9223372036854775808 ≤ most) (hm1 : most ≤ 9223372036854775807) :
    Calls Try.prog 16 #[.slice A l.length c, .int .i64 most] w (Tells w (unpackV w.heap.size l most)) := by
  have H1 := Lib.hid (fun w' (hg : Grew w w') => lsize_c w' A c l (Kd.C_below hr hg) hc (by omega) hb)
  have H2 := Lib.hid (fun w' (hg : Grew w w') => tokens_c w' A c l (Kd.C_below hr hg) hc hl hb)
  obtain ⟨R, hR⟩ : ∃ R, R = unpackV w.heap.size l most := ⟨_, rfl⟩
  rw [← hR]
  unfold unpackV at hR
  obtain ⟨M, hM, hmx1, hmx2⟩ : ∃ M : Nat, max most 0 = (M : Int) ∧ (if most < 0 then (0 : Int) else most) = (M : Int) ∧ (if 0 < most then most else (0 : Int)) = (M : Int) := ⟨(max most 0).toNat, by omega, by split <;> omega, by split <;> omega⟩
  have hM1 : (M : Int) ≤ 9223372036854775807 := by omega
  rw [hM] at hR
  rcases sizeL_cases hb with ⟨h1, h2⟩ | ⟨n, hn, hsz, hpl⟩
  · rw [if_pos (by rw [h2]; decide)] at hR
    rw [h1, h2] at H1
    subst hR
    clear h1 h2 hr hb hM
    go_enter Try.func16, Try.ntmps16
    go_wp2_with fail
    refine (H1.out _ (Grew.refl _)).mono ?_
    rintro e w1 ⟨_, rfl, rfl, hg1⟩
    go_wp2_with fail
    go_ret2
    exact ⟨_, rfl, rfl, hg1⟩
  · rw [hsz] at H1
    rw [if_neg (by rw [hsz]; simp), hsz] at hR
    simp only at hR
    by_cases hmost : (M : Int) < (n : Int)
    · rw [if_pos hmost] at hR
      subst hR
      have y1 : decide ((M : Int) < (n : Int)) = true := decide_eq_true hmost
      have y2 : decide (M < n) = true := decide_eq_true (by omega)
      clear hr hb hM hsz hpl
      go_enter Try.func16, Try.ntmps16
      go_wp2_with fail
      refine (H1.out _ (Grew.refl _)).mono ?_
      rintro e w1 ⟨_, rfl, rfl, hg1⟩
      go_wp2_with fail
      go_ret2
      exact ⟨_, rfl, rfl, hg1⟩
    · rw [if_neg hmost] at hR
      have y1 : decide ((M : Int) < (n : Int)) = false := decide_eq_false hmost
      have y2 : decide (M < n) = false := decide_eq_false (by omega)
      cases htok : tokensL l with
      | none =>
        rw [htok] at hR H2
        simp only at hR
        subst hR
        clear hr hb hM hsz hpl htok
        go_enter Try.func16, Try.ntmps16
        go_wp2_with fail
        refine (H1.out _ (Grew.refl _)).mono ?_
        rintro e w1 ⟨_, rfl, rfl, hg1⟩
        go_wp2_with fail
        refine (H2.out _ hg1).mono ?_
        rintro e w2 ⟨_, rfl, rfl, hg2⟩
        go_wp2_with fail
        go_ret2
        exact ⟨_, rfl, rfl, hg1.trans hg2⟩
      | some L =>
        rw [htok] at hR H2
        simp only at hR
        have HR := Lib.hid hR
        obtain ⟨n2, hn2, -, hgood, htell⟩ := tokensL_ok hb htok
        rw [hsz] at hn2
        obtain rfl : n = n2 := by injection hn2 with h _; omega
        have HGD := Lib.hid hgood
        have HTL := Lib.hid htell
        obtain ⟨m, hm⟩ : ∃ m, m = L.length := ⟨_, rfl⟩
        have HLM := Lib.hid hm
        clear hr hb hM hsz hpl htok hR hn2 hgood htell hm
        go_enter Try.func16, Try.ntmps16
        go_wp2_with fail
        refine (H1.out _ (Grew.refl _)).mono ?_
        rintro e w1 ⟨_, rfl, rfl, hg1⟩
        go_wp2_with fail
        refine (H2.out _ hg1).mono ?_
        rintro e w2 ⟨_, rfl, ⟨v0, rfl, hown⟩, hg2⟩
        rw [← HLM.out] at hown
        obtain ⟨AL, cL, rfl, hcL, hCL⟩ := tk_C hown HLM.out.symm
        have HCL := Lib.hid hCL
        have hg12 := hg1.trans hg2
        clear hown hCL
        obtain ⟨w3, hrun3, hown3, hg3⟩ := make_own (P := Try.prog) w2 w2.heap.size 25 5 (.int .u8 0) 1 1 Try.underlying25 info5 n (by omega) (by omega) (Nat.le_refl _)
        have HO3 := Lib.hid hown3
        clear hown3
        go_wp2_with fail
        clear hrun3
        go_loopw [9, 36] (fun ov iv wr => ∃ (pre suf : List Tk) , iv = .int .i64 (pre.length : Int) ∧ L = pre ++ suf ∧ wr.ownsRow w2.heap.size 5 1 ov (expL pre).length (nums .u8 (expL pre)) ∧ Grew w2 wr) (fun _ iv _ => m - (intOf iv).toNat)
        case atStart => exact ⟨[], L, rfl, rfl, HO3.out, hg3⟩
        case round =>
          obtain ⟨pre, suf, rfl, hp, hown, hgr⟩ := hrel
          have hnn := HLM.out
          rw [hp, List.length_append] at hnn
          rcases suf with _ | ⟨t, suf⟩
          · have d1 : decide ((pre.length : Int) < (m : Int)) = false := decide_eq_false (by simp at hnn; omega)
            have d2 : decide (pre.length < m) = false := decide_eq_false (by simp at hnn; omega)
            rw [List.append_nil] at hp
            have HP := Lib.hid hp
            have HO := Lib.hid hown
            clear hp hnn hown
            go_wp2_with fail
            go_ret2
            rw [HR.out]
            exact ⟨_, rfl, ⟨_, rfl, by rw [HP.out]; exact own_weaken HO.out hg12.size⟩, hg12.trans hgr⟩
          · have hlt : pre.length < m := by simp at hnn; omega
            have d1 : decide ((pre.length : Int) < (m : Int)) = true := decide_eq_true (by omega)
            have d2 : decide (pre.length < m) = true := decide_eq_true hlt
            have i1 : (pre.length : Int) < (m : Int) := by omega
            obtain ⟨ad, hA, k0, k1, k2⟩ := tk_at HCL.out pre suf t hp hlt
            subst hA
            have hgd := HGD.out
            rw [hp, goodL_app] at hgd
            obtain ⟨-, hrt, hbt, -⟩ := hgd
            rw [Nat.zero_add] at hbt
            have htl := HTL.out
            rw [hp, tellL_app, tellL_cons] at htl
            have hmL : m ≤ 65536 := by
              have : ∀ (l : List Tk) (k : Nat), goodL k l → l.length ≤ tellL l := by
                intro l
                induction l with
                | nil => intro k _; simp
                | cons t l ih =>
                  intro k h
                  have h1 := tellT_pos t h.1
                  have h2 := ih _ h.2.2
                  rw [tellL_cons]; simp; omega
              have := this L 0 HGD.out
              rw [← HLM.out, HTL.out] at this
              omega
            obtain ⟨b, hb⟩ : ∃ b : Nat, t.b = (b : Int) := Int.eq_ofNat_of_zero_le (by unfold rightT at hrt; split at hrt <;> simp at hrt <;> omega)
            obtain ⟨S, hS⟩ : ∃ S : Nat, t.s = (S : Int) := Int.eq_ofNat_of_zero_le (by unfold rightT at hrt; split at hrt <;> simp at hrt <;> omega)
            have hSb : 0 < S → 1 ≤ b := fun h => by
              unfold rightT at hrt; split at hrt <;> simp at hrt <;> omega
            have hS2 : S ≤ 130 := by unfold rightT at hrt; split at hrt <;> simp at hrt <;> omega
            rw [hb] at k0 hbt
            rw [hS] at k1
            have k0 := pw_cell_below hgr k0
            have k1 := pw_cell_below hgr k1
            have k2 := pw_cell_below hgr k2
            have HP := Lib.hid (show L = (pre ++ [t]) ++ suf from by rw [hp]; simp)
            have hw : IntKind.i64.wrap ((pre.length : Int) + 1) = (pre.length : Int) + 1 := by rw [IntWalk.i64_in _ (by omega)]
            obtain ⟨D, hD⟩ : ∃ D, D = t.d := ⟨_, rfl⟩
            rw [← hD] at k2
            obtain ⟨xs, hxs⟩ : ∃ xs, xs = expL pre := ⟨_, rfl⟩
            have hxl : xs.length = tellL pre := by rw [hxs, expL_len]
            have htt : tellT t = D.size + S := by unfold tellT; rw [hD, hS, Int.toNat_natCast]
            have HE := Lib.hid (show expL (pre ++ [t]) = backL b S (xs ++ bytesOf D) from by rw [expL_snoc, ← hxs]; unfold expT; rw [hb, hS, hD]; rfl)
            have HXL := Lib.hid (show xs.length + D.size + S ≤ 65536 from by omega)
            have HBX := Lib.hid (show b ≤ xs.length from by omega)
            rw [← hxs] at hown
            obtain ⟨Ao, co, rfl⟩ := own_slice hown
            obtain ⟨W2, hW2⟩ : ∃ W2, W2 = wr.alloc (.cells #[.int .i64 (b : Int), .int .i64 (S : Int), .string D] 47) := ⟨_, rfl⟩
            obtain ⟨g, hg⟩ : ∃ g, g = wr.heap.size := ⟨_, rfl⟩
            have hbl : Blk W2 g 47 [.int .i64 (b : Int), .int .i64 (S : Int), .string D] := by rw [hW2, hg]; exact Blk.new wr _ _
            have hg2 : Grew wr W2 := by rw [hW2]; exact Grew.alloc _ _
            have HBL := Lib.hid hbl
            have HLR := Lib.hid (show ∀ k, (Value.slice Ao xs.length co).ownBlock = some k → k < g from by rw [hg]; exact own_lt hown)
            have q2 : W2.cell? ⟨g, 2, none⟩ = some (.string D) := by rw [hbl.at_]; rfl
            have HO2 := Lib.hid (pw_own_below hown hg2)
            have HWE := Lib.hid hW2
            have HGE := Lib.hid hg
            have HG2 := Lib.hid (hgr.trans hg2)
            obtain ⟨v5, w5, hrun5, hown5, hgr5⟩ := app_str (P := Try.prog) W2 w2.heap.size 25 9 25 5 Try.underlying25 Try.underlying9 info5 _ xs D HO2.out HG2.out.size (by have := HXL.out; omega)
            obtain ⟨ys, hys⟩ : ∃ ys, ys = xs ++ bytesOf D := ⟨_, rfl⟩
            rw [← hys] at HE hown5
            obtain ⟨A5, c5, rfl⟩ := own_slice hown5
            have hu5 : Upd (fun k => (Value.slice Ao xs.length co).ownBlock = some k) W2 w5 := Upd.of_grown hgr5
            have hgw5 : Grew w2 w5 := (((Upd.of_grew (S := fun k => w2.heap.size ≤ k) HG2.out).trans (hu5.mono fun k _ hk => own_base HO2.out k hk))).grew (fun i hi h => by omega)
            have hbl5 := HBL.out.upd hu5 (fun hk => by have := HLR.out g hk; omega)
            have HRUN := Lib.hid hrun5
            have hyl : ys.length = xs.length + D.size := by rw [hys, List.length_append, bytesOf_length]
            obtain ⟨yl, hyl2⟩ : ∃ yl, yl = ys.length := ⟨_, rfl⟩
            rw [← hyl2] at hown5 hyl HRUN
            have HYL2 := Lib.hid hyl2
            have HYL := Lib.hid (show yl + S ≤ 65536 from by have := HXL.out; omega)
            have HBY := Lib.hid (show b ≤ yl from by have := HBX.out; omega)
            have HGY := Lib.hid (show g < w5.heap.size from hbl5.lt)
            have HO5 := Lib.hid hown5
            have HG5 := Lib.hid hgw5
            have HB5 := Lib.hid hbl5
            have HNB := Lib.hid (show ∀ k, (Value.slice A5 yl c5).ownBlock = some k → k ≠ g from fun k hk => by
              have := own_ne hown5 hbl5 (by decide)
              intro e; rw [e] at hk; exact this hk.symm)
            have q1 : w5.cell? ⟨g, 1, none⟩ = some (.int .i64 (S : Int)) := by rw [hbl5.at_]; rfl
            clear hp hnn hrt hbt htl hb hS hD hxs hxl htt hown hW2 hg hbl hg2 hrun5 hown5 hgr5 hu5 hgw5 hbl5 hys hyl hyl2
            go_wp2_with (at_builtin; refine wpList_app2 rfl _ _ _ _ rfl rfl rfl (by rw [← HWE.out]; exact HRUN.out) ?_; rw [← HGE.out])
            clear q1 q2 k0 k1 k2
            go_loopw [9, 46] (fun ov iv wr' => ∃ (j : Nat) (cur : List Int), iv = .int .i64 (j : Int) ∧ j ≤ S ∧ expL (pre ++ [t]) = backL b (S - j) cur ∧ cur.length = yl + j ∧ wr'.ownsRow w2.heap.size 5 1 ov cur.length (nums .u8 cur) ∧ Blk wr' g 47 [.int .i64 (b : Int), .int .i64 (S : Int), .string D] ∧ Grew w2 wr') (fun _ iv _ => S - (intOf iv).toNat)
            case atStart => exact ⟨0, ys, rfl, Nat.zero_le _, by rw [Nat.sub_zero]; exact HE.out, by rw [← HYL2.out]; rfl, by rw [← HYL2.out]; exact HO5.out, HB5.out, HG5.out⟩
            case round =>
              obtain ⟨j, cur, rfl, hj, hbe, hcl, hown, hbl, hgr6⟩ := hrel
              by_cases hjl : j < S
              · have m1 : decide ((j : Int) < (S : Int)) = true := decide_eq_true (by omega)
                have m2 : decide (j < S) = true := decide_eq_true hjl
                have hb1 := hSb (by omega)
                have hby := HBY.out
                have hyl := HYL.out
                obtain ⟨cl, hcl2⟩ : ∃ cl, cl = cur.length := ⟨_, rfl⟩
                rw [← hcl2] at hown hcl
                obtain ⟨go, co2, rfl, hgo1, hgo2, hgo3⟩ := own_head hown (by omega)
                obtain ⟨i, hi⟩ : ∃ i, i = cl - b := ⟨_, rfl⟩
                have c1 := (own_atN hown i (by omega)).1
                have e1 : (cl : Int) - (b : Int) = (i : Int) := by omega
                have hicl : i < cl := by omega
                have hic : (i : Int) < (cl : Int) := by omega
                have hi0 : (0 : Int) ≤ (i : Int) := by omega
                have q0 : wr.cell? ⟨g, 0, none⟩ = some (.int .i64 (b : Int)) := by rw [hbl.at_]; rfl
                obtain ⟨x, hx⟩ : ∃ x, x = cur.getD i 0 := ⟨_, rfl⟩
                rw [← hx] at c1
                have hge := Grew.alloc wr (.cells #[.int .u8 x] 5)
                have hown0 := pw_own_below hown hge
                obtain ⟨v7, w7, hrun7, hown7, hgr7, -⟩ := app_cells (P := Try.prog) (wr.alloc (.cells #[.int .u8 x] 5)) w2.heap.size 25 5 25 (.int .u8 0) 1 1 Try.underlying25 info5 rfl (by decide) (by decide) (.slice (some ⟨go, 0, none⟩) cl co2) cl (nums .u8 cur) wr.heap.size [.int .u8 x] rfl (by intro v hv; simp at hv; rcases hv with rfl; rfl) hown0 (Blk.new wr 5 [.int .u8 x]) (Nat.le_trans hgr6.size hge.size) (by omega)
                have hu7 : Upd (fun k => (Value.slice (some ⟨go, 0, none⟩) cl co2).ownBlock = some k) wr w7 := (Upd.of_grew hge).then_ (Upd.of_grown hgr7) (fun _ _ h => h)
                have hbg : go ≠ g := fun e => by
                  have := own_ne hown hbl (by decide)
                  apply this
                  rw [← e]; rfl
                have HB7 := Lib.hid (hbl.upd hu7 (fun hk => hbg (by simpa [Value.ownBlock] using hk)))
                have HG7 := Lib.hid (show Grew w2 w7 from ((Upd.of_grew (S := fun k => w2.heap.size ≤ k) hgr6).trans (hu7.mono fun k _ hk => own_base hown k hk)).grew (fun i hi h => by omega))
                have HO7 := Lib.hid (show w7.ownsRow w2.heap.size 5 1 v7 (cur ++ [x]).length (nums .u8 (cur ++ [x])) from by
                  rw [List.length_append, List.length_singleton, ← hcl2, show nums .u8 (cur ++ [x]) = nums .u8 cur ++ [.int .u8 x] from by simp [nums]]
                  exact hown7)
                have HBE := Lib.hid (show expL (pre ++ [t]) = backL b (S - (j + 1)) (cur ++ [x]) from by
                  rw [hbe, show S - j = (S - (j + 1)) + 1 from by omega, backL, hx, hi, hcl2])
                have HCL2 := Lib.hid (show (cur ++ [x]).length = yl + (j + 1) from by rw [List.length_append, List.length_singleton, ← hcl2]; omega)
                have hw2 : IntKind.i64.wrap ((j : Int) + 1) = (j : Int) + 1 := by rw [IntWalk.i64_in _ (by omega)]
                have HRUN7 := Lib.hid hrun7
                have HE1 := Lib.hid hi
                have hwi : wrap64 (i : Int) = (i : Int) := w64 (by omega) (by omega)
                clear hbe hx hge hown0 hrun7 hown7 hgr7 hu7 hbg hown hbl hcl2 hcl hi
                go_wp2_with (at_builtin; refine wpList_app2 rfl _ _ _ _ rfl rfl rfl HRUN7.out ?_)
                clear hwi hw2
                go_roundw
                case rel => exact ⟨j + 1, cur ++ [x], by go_num, by omega, HBE.out, HCL2.out, HO7.out, HB7.out, HG7.out⟩
                case measure => simp [intOf]; omega
              · obtain rfl : j = S := by omega
                have m1 : decide ((j : Int) < (j : Int)) = false := decide_eq_false (by omega)
                have m2 : decide (j < j) = false := decide_eq_false (by omega)
                rw [Nat.sub_self] at hbe
                simp only [backL] at hbe
                have HO := Lib.hid hown
                have HBE := Lib.hid hbe
                clear hown hbe hbl
                go_wp2_with fail
                go_roundw
                case rel => exact ⟨pre ++ [t], suf, by simp, HP.out, by rw [HBE.out]; exact HO.out, hgr6⟩
                case measure => simp [intOf]; omega
end Go.Proofs.Ytehbebpemnanoaa.F

-- LzJ
namespace Go.Proofs.Ytehbebpemnanoaa.F
open Go Go.RowKit Go.Proofs.YtehbebpemnanoaaW.PrintWords Go.Proofs.YtehbebpemnanoaaW.PrintLast Go.Proofs.YtehbebpemnanoaaW.PrintMore Go.Proofs.YtehbebpemnanoaaM Go.Proofs.YtehbebpemnanoaaR
attribute [local go_sem] max2_int min2_int max_two min_two
set_option linter.unusedSimpArgs false
set_option linter.unusedVariables false
set_option maxRecDepth 100000
/-- how many bytes tokens tell, as long as those are few; none: one can't be told -/
def jo : Nat → Bool → List Tk → Option (Nat × Bool)
  | told, long, [] => some (told, long)
  | told, long, t :: l => if rightT t = false then none else if long then jo told true l else if (told : Int) < t.b then none else jo (told + tellT t) (decide (65536 < told + tellT t)) l
def ro : Nat → List Tk → Option Nat
  | told, [] => some told
  | told, t :: l => if 65536 < told then some told else if (told : Int) < t.b then none else ro (told + tellT t) l
def joinR (l : List Tk) : Option (Nat × Bool) := jo 0 false l
theorem jo_long : ∀ (l : List Tk) (told : Nat), jo told true l = if l.all rightT then some (told, true) else none
  | [], told => by simp [jo]
  | t :: l, told => by
    simp only [jo, List.all_cons]
    by_cases h : rightT t = true
    · simp [h, jo_long l told]
    · simp [h]
theorem jo_ro : ∀ (l : List Tk) (told : Nat), told ≤ 65536 → jo told false l = if l.all rightT then (ro told l).map (fun k => (k, decide (65536 < k))) else none
  | [], told, h => by simp [jo, ro]; omega
  | t :: l, told, h => by
    simp only [jo, ro, List.all_cons]
    by_cases hr : rightT t = true
    rotate_left
    · simp [hr]
    · simp only [hr, Bool.true_eq_false, if_false, Bool.false_eq_true, Bool.true_and, if_neg (show ¬ 65536 < told from by omega)]
      by_cases hb : (told : Int) < t.b
      · rw [if_pos hb, if_pos hb]; split <;> rfl
      · rw [if_neg hb, if_neg hb]
        by_cases h2 : 65536 < told + tellT t
        · rw [decide_eq_true h2, jo_long]
          have : ro (told + tellT t) l = some (told + tellT t) := by
            cases l with
            | nil => rfl
            | cons x l => rw [ro, if_pos h2]
          rw [this]
          simp [h2]
        · rw [decide_eq_false h2, jo_ro l _ (by omega)]
theorem jo_good : ∀ (l : List Tk) (told k : Nat), told ≤ 65536 → jo told false l = some (k, false) → goodL told l ∧ k = told + tellL l ∧ k ≤ 65536
  | [], told, k, h, hj => by
    simp only [jo, Option.some.injEq, Prod.mk.injEq, and_true] at hj
    subst hj
    exact ⟨trivial, by simp [tellL], h⟩
  | t :: l, told, k, h, hj => by
    simp only [jo] at hj
    cases hr : rightT t
    · rw [hr] at hj; simp at hj
    · rw [hr] at hj
      simp only [Bool.true_eq_false, if_false, Bool.false_eq_true] at hj
      by_cases hb : (told : Int) < t.b
      · rw [if_pos hb] at hj; cases hj
      · rw [if_neg hb] at hj
        by_cases h2 : 65536 < told + tellT t
        · rw [decide_eq_true h2, jo_long] at hj
          split at hj
          · simp at hj
          · cases hj
        · rw [decide_eq_false h2] at hj
          obtain ⟨h3, h4, h5⟩ := jo_good l _ k (by omega) hj
          rw [tellL_cons]
          exact ⟨⟨hr, by omega, h3⟩, by omega, h5⟩
/-- what Join returns -/
def JoinV (base : Nat) (l : List Tk) : World → Value → Prop := match joinR l with
  | none => fun w v => v = .tuple #[.slice none 0 0, .int .i64 1]
  | some (told, true) => fun w v => v = .tuple #[.slice none 0 0, .int .i64 2]
  | some (told, false) => fun w v => ∃ v0, v = .tuple #[v0, .int .i64 0] ∧ Own8 base (layL told l) w v0
theorem tellT_int {t : Tk} (h : rightT t = true) : (t.d.size : Int) + t.s = (tellT t : Int) ∧ tellT t ≤ 200 := by
  unfold rightT at h; unfold tellT
  split at h
  · simp at h; omega
  · simp at h; omega
set_option maxHeartbeats 8000000 in
theorem join_c (w : World) (A : Option Addr) (n c : Nat) (l : List Tk) (hC : Kd.C k47 w A n (l.map tkL)) (hn : l.length = n) (hc : n ≤ c) (hn2 : n ≤ 100000) :
    Calls Try.prog 10 #[.slice A n c] w (Tells w (JoinV w.heap.size l)) := by
  have HC := Lib.hid hC
  have HN := Lib.hid hn
  obtain ⟨R, hR⟩ : ∃ R, R = JoinV w.heap.size l := ⟨_, rfl⟩
  rw [← hR]
  have HR := Lib.hid hR
  obtain ⟨J, hJ⟩ : ∃ J, J = joinR l := ⟨_, rfl⟩
  have HJ := Lib.hid hJ
  have HLAY := Lib.hid (show ∀ (k : Nat), J = some (k, false) → k ≤ 65536 ∧ ∀ w', Grew w w' → Calls Try.prog 20 #[.int .i64 (k : Int), .slice A n c] w' (Tells w' (Own8 w'.heap.size (layL k l))) from fun k hk => by
    rw [hJ] at hk
    obtain ⟨h1, h2, h3⟩ := jo_good l 0 k (by omega) hk
    exact ⟨h3, fun w' hg => lay_c w' A n c k l (Kd.C_below hC hg) hn hc (goodL_right l 0 h1) hn2 h3⟩)
  clear hC hn hR hJ
  go_enter Try.func10, Try.ntmps10
  go_wp2_with fail
  go_loopw [4, 5, 10] (fun tv bv iv wr => ∃ (pre suf : List Tk) (told : Nat) (long : Bool), iv = .int .i64 (pre.length : Int) ∧ tv = .int .i64 (told : Int) ∧ bv = .bool long ∧ l = pre ++ suf ∧ told ≤ 66000 ∧ (long = false → told ≤ 65536) ∧ J = jo told long suf ∧ Grew w wr) (fun _ _ iv _ => n - (intOf iv).toNat)
  case atStart => exact ⟨[], l, 0, false, rfl, rfl, rfl, rfl, by omega, fun _ => by omega, HJ.out, Grew.refl _⟩
  case round =>
    obtain ⟨pre, suf, told, long, rfl, rfl, rfl, hp, htl, hlo, hj, hgr⟩ := hrel
    have hnn := HN.out
    rw [hp, List.length_append] at hnn
    rcases suf with _ | ⟨t, suf⟩
    · have d1 : decide ((pre.length : Int) < (n : Int)) = false := decide_eq_false (by simp at hnn; omega)
      have d2 : decide (pre.length < n) = false := decide_eq_false (by simp at hnn; omega)
      simp only [jo] at hj
      clear hp hnn
      cases long with
      | true =>
        have HRE := Lib.hid (show R = fun w v => v = .tuple #[.slice none 0 0, .int .i64 2] from by rw [HR.out]; unfold JoinV; rw [← HJ.out, hj])
        clear hj
        go_wp2_with fail
        go_ret2
        rw [HRE.out]
        exact ⟨_, rfl, rfl, hgr⟩
      | false =>
        have HRE := Lib.hid (show R = fun w' v => ∃ v0, v = .tuple #[v0, .int .i64 0] ∧ Own8 w.heap.size (layL told l) w' v0 from by rw [HR.out]; unfold JoinV; rw [← HJ.out, hj])
        have HL := Lib.hid ((HLAY.out told hj).2)
        clear hj
        go_wp2_with fail
        refine (HL.out _ hgr).mono ?_
        rintro e w2 ⟨v2, rfl, ho2, hg2⟩
        have HO2 := Lib.hid ho2
        clear ho2
        go_wp2_with fail
        go_ret2
        rw [HRE.out]
        exact ⟨_, rfl, ⟨_, rfl, own_weaken HO2.out hgr.size⟩, hgr.trans hg2⟩
    · have hlt : pre.length < n := by simp at hnn; omega
      have d1 : decide ((pre.length : Int) < (n : Int)) = true := decide_eq_true (by omega)
      have d2 : decide (pre.length < n) = true := decide_eq_true hlt
      have i1 : (pre.length : Int) < (n : Int) := by omega
      obtain ⟨ad, hA, k0, k1, k2⟩ := tk_at HC.out pre suf t hp hlt
      subst hA
      have k0 := pw_cell_below hgr k0
      have k1 := pw_cell_below hgr k1
      have k2 := pw_cell_below hgr k2
      have HP := Lib.hid (show l = (pre ++ [t]) ++ suf from by rw [hp]; simp)
      have hw : IntKind.i64.wrap ((pre.length : Int) + 1) = (pre.length : Int) + 1 := by rw [IntWalk.i64_in _ (by omega)]
      simp only [jo] at hj
      obtain ⟨W2, hW2⟩ : ∃ W2, W2 = wr.alloc (.cells #[.int .i64 t.b, .int .i64 t.s, .string t.d] 47) := ⟨_, rfl⟩
      obtain ⟨g, hg⟩ : ∃ g, g = wr.heap.size := ⟨_, rfl⟩
      have hbl : Blk W2 g 47 [.int .i64 t.b, .int .i64 t.s, .string t.d] := by rw [hW2, hg]; exact Blk.new wr _ _
      have hg2 : Grew wr W2 := by rw [hW2]; exact Grew.alloc _ _
      have CT := Lib.hid (show ∀ wx, Grew W2 wx → wx.cell? ⟨g, 0, none⟩ = some (.int .i64 t.b) ∧ wx.cell? ⟨g, 1, none⟩ = some (.int .i64 t.s) ∧ wx.cell? ⟨g, 2, none⟩ = some (.string t.d) from fun wx h => ⟨by rw [(hbl.grew h).at_]; rfl, by rw [(hbl.grew h).at_]; rfl, by rw [(hbl.grew h).at_]; rfl⟩)
      have HWE := Lib.hid hW2
      have HGE := Lib.hid hg
      have HG2 := Lib.hid (hgr.trans hg2)
      have HRT := Lib.hid (fun w => right_c w t)
      clear hp hnn hbl hg2 hW2 hg
      cases hrt : rightT t with
      | false =>
        rw [hrt] at hj HRT
        rw [if_pos rfl] at hj
        have HRE := Lib.hid (show R = fun w v => v = .tuple #[.slice none 0 0, .int .i64 1] from by rw [HR.out]; unfold JoinV; rw [← HJ.out, hj])
        clear hj hrt
        go_wp2_with fail
        rw [← HWE.out, ← HGE.out]
        refine (HRT.out W2).mono ?_
        rintro e w3 ⟨_, rfl, rfl, hg3⟩
        go_wp2_with fail
        go_ret2
        rw [HRE.out]
        exact ⟨_, rfl, rfl, HG2.out.trans hg3⟩
      | true =>
        obtain ⟨ht1, ht2⟩ := tellT_int hrt
        rw [hrt] at hj HRT
        rw [if_neg (by decide)] at hj
        cases long with
        | true =>
          simp only [if_true] at hj
          have HRE := Lib.hid hj
          clear hj hrt
          go_wp2_with fail
          rw [← HWE.out, ← HGE.out]
          refine (HRT.out W2).mono ?_
          rintro e w3 ⟨_, rfl, rfl, hg3⟩
          go_wp2_with fail
          go_roundw
          case rel => exact ⟨pre ++ [t], suf, told, true, by simp, rfl, rfl, HP.out, htl, (fun h => absurd h (by decide)), HRE.out, HG2.out.trans hg3⟩
          case measure => simp [intOf]; omega
        | false =>
          simp only [Bool.false_eq_true, if_false] at hj
          by_cases hb : (told : Int) < t.b
          · rw [if_pos hb] at hj
            have y1 : decide ((told : Int) < t.b) = true := decide_eq_true hb
            have HRE := Lib.hid (show R = fun w v => v = .tuple #[.slice none 0 0, .int .i64 1] from by rw [HR.out]; unfold JoinV; rw [← HJ.out, hj])
            clear hj hrt
            go_wp2_with fail
            rw [← HWE.out, ← HGE.out]
            refine (HRT.out W2).mono ?_
            rintro e w3 ⟨_, rfl, rfl, hg3⟩
            have c0 := (CT.out w3 hg3).1
            go_wp2_with fail
            go_ret2
            rw [HRE.out]
            exact ⟨_, rfl, rfl, HG2.out.trans hg3⟩
          · rw [if_neg hb] at hj
            have y1 : decide ((told : Int) < t.b) = false := decide_eq_false hb
            have htold := hlo rfl
            obtain ⟨tt, htt⟩ : ∃ tt, tt = tellT t := ⟨_, rfl⟩
            rw [← htt] at hj ht1 ht2
            obtain ⟨ds, hds⟩ : ∃ ds, ds = t.d.size := ⟨_, rfl⟩
            obtain ⟨ts, hts⟩ : ∃ ts, ts = t.s := ⟨_, rfl⟩
            have hds' := hds.symm
            rw [← hds, ← hts] at ht1
            rw [← hts] at CT HRT
            rw [← hts] at HWE
            rw [← hts] at k1
            have hts0 : 0 ≤ ts := by
              rw [hts]; unfold rightT at hrt; split at hrt <;> simp at hrt <;> omega
            have HT1 := Lib.hid ht1
            have hds2 : ds ≤ 200 := by omega
            have hts2 : ts ≤ 200 := by omega
            have hlong : ∃ lg, decide (65536 < told + tt) = lg ∧ decide ((65536 : Int) < (told : Int) + ((ds : Int) + ts)) = lg := ⟨_, rfl, by congr 1; rw [eq_iff_iff]; omega⟩
            obtain ⟨lg, hl1, hl2⟩ := hlong
            have HL1 := Lib.hid hl1
            rw [hl1] at hj
            have HRE := Lib.hid hj
            have HTT := Lib.hid (show (told : Int) + ((ds : Int) + ts) = ((told + tt : Nat) : Int) from by omega)
            have HB1 := Lib.hid (show told + tt ≤ 66000 from by omega)
            clear hj hrt ht1 htt hds hts hl1 hlo htl
            go_wp2_with fail
            rw [← HWE.out, ← HGE.out]
            refine (HRT.out W2).mono ?_
            rintro e w3 ⟨_, rfl, rfl, hg3⟩
            have c0 := (CT.out w3 hg3).1
            have c1 := (CT.out w3 hg3).2.1
            have c2 := (CT.out w3 hg3).2.2
            go_wp2_with fail
            go_roundw
            case rel => exact ⟨pre ++ [t], suf, told + tt, lg, by simp, by rw [HTT.out], rfl, HP.out, HB1.out, fun h => by have := HL1.out; rw [h] at this; simpa using this, HRE.out, HG2.out.trans hg3⟩
            case measure => simp [intOf]; omega
end Go.Proofs.Ytehbebpemnanoaa.F

-- LzK
namespace Go.Proofs.Ytehbebpemnanoaa.F
open Go Go.RowKit Go.Proofs.YtehbebpemnanoaaW.PrintWords Go.Proofs.YtehbebpemnanoaaW.PrintLast Go.Proofs.YtehbebpemnanoaaW.PrintMore Go.Proofs.YtehbebpemnanoaaM Go.Proofs.YtehbebpemnanoaaR
attribute [local go_sem] max2_int min2_int max_two min_two
set_option linter.unusedSimpArgs false
set_option linter.unusedVariables false
set_option maxRecDepth 100000
theorem rk_at {w : World} {A : Option Addr} {n : Nat} {x : List S46} (h : Kd.C k46 w A n x) (pre suf : List S46) (s : S46) (hl : x = pre ++ s :: suf) (hn : pre.length < n) : ∃ ad, A = some ad ∧ w.cell? (ad.add (pre.length * 3)) = some (.int .i64 (tkA s).b) ∧ w.cell? ⟨(ad.add (pre.length * 3)).block, (ad.add (pre.length * 3)).off + 1, none⟩ = some (.int .i64 (tkA s).s) ∧ w.cell? ⟨(ad.add (pre.length * 3)).block, (ad.add (pre.length * 3)).off + 2, none⟩ = some (.string (tkA s).d) := by
  obtain ⟨ad, hA, k0, k1, k2⟩ := at_T46 h (pre.length : Int) (by omega) (by omega)
  have : rd_T46 x (pre.length : Int) = s := by
    unfold rd_T46; rw [Int.toNat_natCast, hl]; simp [List.getD]
  rw [this, Int.toNat_natCast] at k0 k1 k2
  exact ⟨ad, hA, k0, k1, k2⟩
/-- what the reference's Join returns -/
def rjoinV (l : List Tk) : Value := match joinR l with
  | none => .tuple #[.string ⟨#[]⟩, .int .i64 1]
  | some (told, true) => .tuple #[.string ⟨#[]⟩, .int .i64 2]
  | some (told, false) => .tuple #[.string (strOfNums (layL told l)), .int .i64 0]
theorem conv_new (w : World) (o : Obj) (xs : List Int) (n : Nat) (hn : xs.length = n) (hm : n ≤ 1000) :
    (convert 25 9 (.slice (some ⟨w.heap.size + 1, 0, none⟩) n n)).run Try.prog ((w.alloc o).alloc (.cells (nums .u8 xs).toArray 5)) = .ok (.string (strOfNums xs)) ((w.alloc o).alloc (.cells (nums .u8 xs).toArray 5)) := by
  have hb := Blk.new (w.alloc o) 5 (nums .u8 xs)
  rw [show (w.alloc o).heap.size = w.heap.size + 1 from by simp] at hb
  have hC := hb.C (k := .u8) (by omega)
  rw [hn] at hC
  exact Kd.C_string (P := Try.prog) (c := n) Try.underlying25 Try.underlying5 Try.underlying9 hC
set_option maxHeartbeats 8000000 in
theorem rjoin_c (w : World) (A : Option Addr) (n c : Nat) (x : List S46) (hC : Kd.C k46 w A n x) (hn : x.length = n) (hc : n ≤ c) (hn2 : n ≤ 100000) :
    Calls Try.prog 12 #[.slice A n c] w (Tells w (Is (rjoinV (x.map tkA)))) := by
  have HC := Lib.hid hC
  have HN := Lib.hid hn
  obtain ⟨L, hL⟩ : ∃ L, L = x.map tkA := ⟨_, rfl⟩
  rw [← hL]
  have HL := Lib.hid hL
  have HJ := Lib.hid (jo_ro L 0 (by omega))
  clear hC hn hL
  go_enter Try.func12, Try.ntmps12
  go_wp2_with fail
  go_loopw [5] (fun iv wr => ∃ pre suf : List S46, iv = .int .i64 (pre.length : Int) ∧ x = pre ++ suf ∧ (pre.map tkA).all rightT = true ∧ Grew w wr) (fun iv _ => n - (intOf iv).toNat)
  case atStart => exact ⟨[], x, rfl, rfl, rfl, Grew.refl _⟩
  case round =>
    obtain ⟨pre, suf, rfl, hp, hall, hgr⟩ := hrel
    have hnn := HN.out
    rw [hp, List.length_append] at hnn
    rcases suf with _ | ⟨s, suf⟩
    · have d1 : decide ((pre.length : Int) < (n : Int)) = false := decide_eq_false (by simp at hnn; omega)
      have d2 : decide (pre.length < n) = false := decide_eq_false (by simp at hnn; omega)
      rw [List.append_nil] at hp
      subst hp
      rw [← HL.out] at hall
      have HJ2 := Lib.hid (show joinR L = (ro 0 L).map (fun k => (k, decide (65536 < k))) from by unfold joinR; rw [HJ.out, if_pos hall])
      have HR := Lib.hid (show ∀ t ∈ L, rightT t = true from fun t ht => List.all_eq_true.1 hall t ht)
      clear hall hnn
      go_wp2_with fail
      go_loopw [4, 6] (fun tv iv wr => ∃ (pre suf : List S46) (told : Nat), iv = .int .i64 (pre.length : Int) ∧ tv = .int .i64 (told : Int) ∧ x = pre ++ suf ∧ told ≤ 66000 ∧ ro 0 L = ro told (suf.map tkA) ∧ Grew w wr) (fun _ iv _ => n - (intOf iv).toNat)
      case atStart => exact ⟨[], x, 0, rfl, rfl, rfl, by omega, by rw [HL.out], hgr⟩
      case round =>
        obtain ⟨pre, suf, told, rfl, rfl, hp, htl, hro, hgr⟩ := hrel
        have hnn := HN.out
        rw [hp, List.length_append] at hnn
        by_cases hstop : suf = [] ∨ 65536 < told
        · have hK : ro 0 L = some told := by
            rw [hro]
            rcases hstop with h | h
            · rw [h]; rfl
            · cases suf with
              | nil => rfl
              | cons s suf => rw [List.map_cons, ro, if_pos h]
          have hex : (decide ((pre.length : Int) < (n : Int)) = false ∧ decide (pre.length < n) = false) ∨ (decide ((pre.length : Int) < (n : Int)) = true ∧ decide (pre.length < n) = true ∧ decide ((told : Int) ≤ 65536) = false ∧ decide (told ≤ 65536) = false) := by
            by_cases h : pre.length < n
            · refine .inr ⟨decide_eq_true (by omega), decide_eq_true h, ?_⟩
              rcases hstop with h2 | h2
              · rw [h2] at hnn; simp at hnn; omega
              · exact ⟨decide_eq_false (by omega), decide_eq_false (by omega)⟩
            · exact .inl ⟨decide_eq_false (by omega), decide_eq_false h⟩
          have HK := Lib.hid hK
          clear hro hp hnn hK hstop
          by_cases hlong : 65536 < told
          · have HV := Lib.hid (show rjoinV L = .tuple #[.string ⟨#[]⟩, .int .i64 2] from by
              unfold rjoinV
              rw [HJ2.out, HK.out]
              simp only [Option.map_some, decide_eq_true hlong])
            have y1 : decide ((65536 : Int) < (told : Int)) = true := decide_eq_true (by omega)
            have y2 : decide (65536 < told) = true := decide_eq_true hlong
            rcases hex with ⟨x1, x2⟩ | ⟨x1, x2, x3, x4⟩
            all_goals
              go_wp2_with fail
              go_ret2
              rw [HV.out]
              exact ⟨_, rfl, rfl, hgr⟩
          · have HV := Lib.hid (show rjoinV L = .tuple #[.string (strOfNums (layL told L)), .int .i64 0] from by
              unfold rjoinV
              rw [HJ2.out, HK.out]
              simp only [Option.map_some, decide_eq_false hlong])
            have y1 : decide ((65536 : Int) < (told : Int)) = false := decide_eq_false (by omega)
            have y2 : decide (65536 < told) = false := decide_eq_false hlong
            have hmw : IntKind.u64.wrap (told : Int) = (told : Int) := by rw [u64_wrap]; omega
            have hex2 : (decide ((pre.length : Int) < (n : Int)) = false ∧ decide (pre.length < n) = false) := by
              rcases hex with h | ⟨_, _, _, h⟩
              · exact h
              · exact absurd (of_decide_eq_false h) (by omega)
            obtain ⟨x1, x2⟩ := hex2
            clear hex
            go_wp2_with fail
            refine (rput_c told _ (by omega)).mono ?_
            rintro e w3 ⟨_, rfl, rfl, hg3⟩
            have hgr3 := hgr.trans hg3
            go_wp2_with fail
            clear x1 x2
            go_loopw [7, 8] (fun sv iv wr => ∃ pre suf : List S46, iv = .int .i64 (pre.length : Int) ∧ x = pre ++ suf ∧ sv = .string (strOfNums (layL told (pre.map tkA))) ∧ Grew w wr) (fun _ iv _ => n - (intOf iv).toNat)
            case atStart => exact ⟨[], x, rfl, rfl, by simp [layL], hgr3⟩
            case round =>
              obtain ⟨pre, suf, rfl, hp, rfl, hgr⟩ := hrel
              have hnn := HN.out
              rw [hp, List.length_append] at hnn
              rcases suf with _ | ⟨s, suf⟩
              · have d1 : decide ((pre.length : Int) < (n : Int)) = false := decide_eq_false (by simp at hnn; omega)
                have d2 : decide (pre.length < n) = false := decide_eq_false (by simp at hnn; omega)
                rw [List.append_nil] at hp
                have HP := Lib.hid hp
                clear hp hnn
                go_wp2_with fail
                go_ret2
                rw [HV.out, HL.out, HP.out]
                exact ⟨_, rfl, rfl, hgr⟩
              · have hlt : pre.length < n := by simp at hnn; omega
                have d1 : decide ((pre.length : Int) < (n : Int)) = true := decide_eq_true (by omega)
                have d2 : decide (pre.length < n) = true := decide_eq_true hlt
                have i1 : (pre.length : Int) < (n : Int) := by omega
                obtain ⟨ad, hA, k0, k1, k2⟩ := rk_at HC.out pre suf s hp hlt
                subst hA
                have k0 := pw_cell_below hgr k0
                have k1 := pw_cell_below hgr k1
                have k2 := pw_cell_below hgr k2
                have HP := Lib.hid (show x = (pre ++ [s]) ++ suf from by rw [hp]; simp)
                have hw : IntKind.i64.wrap ((pre.length : Int) + 1) = (pre.length : Int) + 1 := by rw [IntWalk.i64_in _ (by omega)]
                obtain ⟨t, ht⟩ : ∃ t, t = tkA s := ⟨_, rfl⟩
                rw [← ht] at k0 k1 k2
                have hrt := HR.out t (by rw [HL.out, hp, ht]; simp)
                obtain ⟨ll, hll⟩ : ∃ ll, ll = layL told (pre.map tkA) := ⟨_, rfl⟩
                have HLL := Lib.hid (show layL told ((pre ++ [s]).map tkA) = ll ++ tokB t from by rw [List.map_append, List.map_singleton, layL_snoc, hll, ht])
                have hlb : ll.length ≤ 10 + 129 * 100000 := by
                  have h1 : (layL told (pre.map tkA)).length ≤ 10 + 129 * pre.length := by
                    have hrp : ∀ t ∈ pre.map tkA, rightT t = true := fun t ht => HR.out t (by rw [HL.out, hp, List.map_append]; exact List.mem_append_left _ ht)
                    unfold layL
                    rw [List.length_append]
                    have h1 := putL_small (n := told) (by omega)
                    have h2 : ∀ p : List Tk, (∀ t ∈ p, rightT t = true) → (p.flatMap tokB).length ≤ 129 * p.length := by
                      intro p
                      induction p with
                      | nil => intro _; simp
                      | cons t p ih =>
                        intro hp
                        have h1 := tokB_len t (hp t (by simp))
                        have h2 := ih (fun t ht => hp t (by simp [ht]))
                        simp only [List.flatMap_cons, List.length_append, List.length_cons]
                        omega
                    have h3 := h2 _ hrp
                    rw [List.length_map] at h3
                    omega
                  rw [hll]; omega
                rw [← hll]
                obtain ⟨Z, hZ⟩ : ∃ Z, Z = strOfNums ll := ⟨_, rfl⟩
                rw [← hZ]
                have hzs : Z.size ≤ 13000000 := by rw [hZ, str_size]; omega
                have HZ := Lib.hid hZ
                clear hp hnn ht hll hZ hlb
                unfold rightT at hrt
                by_cases hd : t.d.size = 0
                · rw [if_pos hd] at hrt
                  simp only [Bool.and_eq_true, decide_eq_true_eq] at hrt
                  obtain ⟨⟨⟨r1, r2⟩, r3⟩, r4⟩ := hrt
                  have e1 : (t.d.toList.isEmpty) = true := by rw [(nil_iff _).2 hd]; rfl
                  have e2 : t.d.toList = [] := (nil_iff _).2 hd
                  have HTB := Lib.hid (show tokB t = [t.s + 125, (t.b - 1) / 256, (t.b - 1) % 256] from by unfold tokB; rw [if_pos hd])
                  have hcv := conv_new wr (.cells #[.int .i64 t.b, .int .i64 t.s, .string t.d] 46) [t.s + 125, (t.b - 1) / 256, (t.b - 1) % 256] 3 rfl (by omega)
                  obtain ⟨S3, hS3⟩ : ∃ S3, S3 = strOfNums [t.s + 125, (t.b - 1) / 256, (t.b - 1) % 256] := ⟨_, rfl⟩
                  have hcv2 : (convert 25 9 (.slice (some ⟨wr.heap.size + 1, 0, none⟩) 3 3)).run Try.prog ((wr.alloc (.cells #[.int .i64 t.b, .int .i64 t.s, .string t.d] 46)).alloc (.cells #[.int .u8 (t.s + 125), .int .u8 ((t.b - 1) / 256), .int .u8 ((t.b - 1) % 256)] 5)) = .ok (.string S3) ((wr.alloc (.cells #[.int .i64 t.b, .int .i64 t.s, .string t.d] 46)).alloc (.cells #[.int .u8 (t.s + 125), .int .u8 ((t.b - 1) / 256), .int .u8 ((t.b - 1) % 256)] 5)) := by rw [hS3]; exact hcv
                  have hsz : ¬ 9223372036854775807 < Z.size + S3.size := by rw [hS3, str_size]; simp; omega
                  have HF := Lib.hid (show Z ++ S3 = strOfNums (ll ++ tokB t) from by rw [HZ.out, hS3, str_append, HTB.out])
                  have HG := Lib.hid (hgr.trans ((Grew.alloc wr (.cells #[.int .i64 t.b, .int .i64 t.s, .string t.d] 46)).trans (Grew.alloc _ (.cells #[.int .u8 (t.s + 125), .int .u8 ((t.b - 1) / 256), .int .u8 ((t.b - 1) % 256)] 5))))
                  clear hd hcv hS3 hgr
                  go_wp2_with fail
                  go_roundw
                  case rel => exact ⟨pre ++ [s], suf, by simp, HP.out, by rw [HLL.out, ← HF.out], HG.out⟩
                  case measure => simp [intOf]; omega
                · rw [if_neg hd] at hrt
                  simp only [Bool.and_eq_true, decide_eq_true_eq] at hrt
                  have e1 : (t.d.toList.isEmpty) = false := by
                    rw [List.isEmpty_eq_false_iff]; exact fun h => hd ((nil_iff _).1 h)
                  have e2 : ¬ t.d.toList = [] := fun h => hd ((nil_iff _).1 h)
                  obtain ⟨ds, hds⟩ : ∃ ds, ds = t.d.size := ⟨_, rfl⟩
                  have hds' := hds.symm
                  have HTB := Lib.hid (show tokB t = ((ds : Int) - 1) :: bytesOf t.d from by unfold tokB; rw [if_neg hd, hds])
                  have h128 : ds ≤ 128 := by omega
                  have h1 : 1 ≤ ds := by omega
                  have HRR := Lib.hid hrt
                  have hcv := conv_new wr (.cells #[.int .i64 t.b, .int .i64 t.s, .string t.d] 46) [(ds : Int) - 1] 1 rfl (by omega)
                  obtain ⟨S3, hS3⟩ : ∃ S3, S3 = strOfNums [(ds : Int) - 1] := ⟨_, rfl⟩
                  have hcv2 : (convert 25 9 (.slice (some ⟨wr.heap.size + 1, 0, none⟩) 1 1)).run Try.prog ((wr.alloc (.cells #[.int .i64 t.b, .int .i64 t.s, .string t.d] 46)).alloc (.cells #[.int .u8 ((ds : Int) - 1)] 5)) = .ok (.string S3) ((wr.alloc (.cells #[.int .i64 t.b, .int .i64 t.s, .string t.d] 46)).alloc (.cells #[.int .u8 ((ds : Int) - 1)] 5)) := by rw [hS3]; exact hcv
                  have hs3 : S3.size = 1 := by rw [hS3, str_size]; rfl
                  have hsz : ¬ 9223372036854775807 < Z.size + S3.size := by rw [hs3]; omega
                  have hsz2 : ¬ 9223372036854775807 < (Z ++ S3).size + t.d.size := by rw [ByteArray.size_append, hs3, hds']; omega
                  have hsz3 : ¬ 9223372036854775807 < Z.size + S3.size + ds := by rw [hs3]; omega
                  have HF := Lib.hid (show Z ++ S3 ++ t.d = strOfNums (ll ++ tokB t) from by
                    rw [HZ.out, hS3, str_append, HTB.out]
                    conv => lhs; rw [← str_bytesOfL t.d]
                    rw [str_append]; simp)
                  have HG := Lib.hid (hgr.trans ((Grew.alloc wr (.cells #[.int .i64 t.b, .int .i64 t.s, .string t.d] 46)).trans (Grew.alloc _ (.cells #[.int .u8 ((ds : Int) - 1)] 5))))
                  clear hs3 hd hds hrt hcv hS3 hgr
                  go_wp2_with fail
                  go_roundw
                  case rel => exact ⟨pre ++ [s], suf, by simp, HP.out, by rw [HLL.out, ← HF.out], HG.out⟩
                  case measure => simp [intOf]; omega
        · rcases suf with _ | ⟨s, suf⟩
          · exact absurd (.inl rfl) hstop
          have hlong : ¬ 65536 < told := fun h => hstop (.inr h)
          have hlt : pre.length < n := by simp at hnn; omega
          have d1 : decide ((pre.length : Int) < (n : Int)) = true := decide_eq_true (by omega)
          have d2 : decide (pre.length < n) = true := decide_eq_true hlt
          have i1 : (pre.length : Int) < (n : Int) := by omega
          have x3 : decide ((told : Int) ≤ 65536) = true := decide_eq_true (by omega)
          have x4 : decide (told ≤ 65536) = true := decide_eq_true (by omega)
          obtain ⟨ad, hA, k0, k1, k2⟩ := rk_at HC.out pre suf s hp hlt
          subst hA
          have k0 := pw_cell_below hgr k0
          have k1 := pw_cell_below hgr k1
          have k2 := pw_cell_below hgr k2
          have HP := Lib.hid (show x = (pre ++ [s]) ++ suf from by rw [hp]; simp)
          have hw : IntKind.i64.wrap ((pre.length : Int) + 1) = (pre.length : Int) + 1 := by rw [IntWalk.i64_in _ (by omega)]
          obtain ⟨t, ht⟩ : ∃ t, t = tkA s := ⟨_, rfl⟩
          rw [List.map_cons, ro, if_neg hlong, ← ht] at hro
          rw [← ht] at k0 k1 k2
          have hrt := HR.out t (by rw [HL.out, hp, ht]; simp)
          obtain ⟨ht1, ht2⟩ := tellT_int hrt
          by_cases hb : (told : Int) < t.b
          · rw [if_pos hb] at hro
            have y1 : decide ((told : Int) < t.b) = true := decide_eq_true hb
            have HV := Lib.hid (show rjoinV L = .tuple #[.string ⟨#[]⟩, .int .i64 1] from by
              unfold rjoinV
              rw [HJ2.out, hro]; rfl)
            clear hro hp hnn ht hrt ht1 ht2 hstop
            go_wp2_with fail
            go_ret2
            rw [HV.out]
            exact ⟨_, rfl, rfl, hgr⟩
          · rw [if_neg hb] at hro
            have y1 : decide ((told : Int) < t.b) = false := decide_eq_false hb
            obtain ⟨tt, htt⟩ : ∃ tt, tt = tellT t := ⟨_, rfl⟩
            rw [← htt] at hro ht1 ht2
            obtain ⟨ds, hds⟩ : ∃ ds, ds = t.d.size := ⟨_, rfl⟩
            obtain ⟨ts, hts⟩ : ∃ ts, ts = t.s := ⟨_, rfl⟩
            have hds' := hds.symm
            rw [← hds, ← hts] at ht1
            rw [← hts] at k1
            have hts0 : 0 ≤ ts := by
              rw [hts]; unfold rightT at hrt; split at hrt <;> simp at hrt <;> omega
            have w1 : IntKind.i64.wrap ((told : Int) + (ds : Int)) = (told : Int) + (ds : Int) := by rw [IntWalk.i64_in _ (by omega)]
            have w2 : IntKind.i64.wrap ((told : Int) + (ds : Int) + ts) = (told : Int) + (ds : Int) + ts := by rw [IntWalk.i64_in _ (by omega)]
            have K1 := Lib.hid (fun wx (h : Grew wr wx) => pw_cell_below h k1)
            have K2 := Lib.hid (fun wx (h : Grew wr wx) => pw_cell_below h k2)
            have HRO := Lib.hid hro
            have HTT := Lib.hid (show (told : Int) + (ds : Int) + ts = ((told + tt : Nat) : Int) from by omega)
            have HB1 := Lib.hid (show told + tt ≤ 66000 from by omega)
            clear hro hp hnn ht hrt ht1 ht2 hstop htt hds hts k1 k2
            go_wp2_with fail
            apply region_grew [Is _, Is _, Is _, Is _, Is _, Is _, Is _, Is _, Is _, Is _, Is _, Is _, Is _] [([(4, none)], none), ([(0, none)], none), ([(6, none)], none), ([(40, some 1), (41, some 2)], none), ([(42, some 3)], none), ([(43, some 4)], none), ([(44, some 5)], none), ([(39, some 0), (45, some 6)], none), ([(0, none)], none), ([(6, none)], none), ([(47, some 8), (48, some 9)], none), ([(49, some 10)], none), ([(50, some 11)], none)] [(39, 0), (40, 1), (41, 2), (42, 3), (43, 4), (44, 5), (45, 6), (46, 7), (47, 8), (48, 9), (49, 10), (50, 11), (51, 12)] rfl (by kernel_rfl) (by kernel_rfl) (show Stable Grew _ from ⟨Is.stable _, Is.stable _, Is.stable _, Is.stable _, Is.stable _, Is.stable _, Is.stable _, Is.stable _, Is.stable _, Is.stable _, Is.stable _, Is.stable _, Is.stable _, trivial⟩)
            · show OpsHold _ _ _ _ _ _ _ _ _
              refine ⟨fun a_ wx hR hD K hK => ?_, ?_⟩
              · have hG : Grew wr wx := (Grew.drew _).trans hR
                simp [Deps, Dep, at_, Is] at hD
                go_simp
                exact hK _ _ (Grew.refl _) rfl
              refine ⟨fun a_ wx hR hD K hK => ?_, ?_⟩
              · have hG : Grew wr wx := (Grew.drew _).trans hR
                simp [Deps, Dep, at_, Is] at hD
                go_simp
                exact hK _ _ (Grew.refl _) rfl
              refine ⟨fun a_ wx hR hD K hK => ?_, ?_⟩
              · have hG : Grew wr wx := (Grew.drew _).trans hR
                simp [Deps, Dep, at_, Is] at hD
                go_simp
                exact hK _ _ (Grew.refl _) rfl
              refine ⟨fun a_ wx hR hD K hK => ?_, ?_⟩
              · have hG : Grew wr wx := (Grew.drew _).trans hR
                simp [Deps, Dep, at_, Is] at hD
                obtain ⟨hd0, hd1⟩ := hD
                go_simp
                exact hK _ _ (Grew.refl _) rfl
              refine ⟨fun a_ wx hR hD K hK => ?_, ?_⟩
              · have hG : Grew wr wx := (Grew.drew _).trans hR
                simp [Deps, Dep, at_, Is] at hD
                go_simp
                exact hK _ _ (Grew.refl _) rfl
              refine ⟨fun a_ wx hR hD K hK => ?_, ?_⟩
              · have hG : Grew wr wx := (Grew.drew _).trans hR
                simp [Deps, Dep, at_, Is] at hD
                have e_ := K2.out wx hG
                go_simp
                exact hK _ _ (Grew.refl _) rfl
              refine ⟨fun a_ wx hR hD K hK => ?_, ?_⟩
              · have hG : Grew wr wx := (Grew.drew _).trans hR
                simp [Deps, Dep, at_, Is] at hD
                go_simp
                exact hK _ _ (Grew.refl _) rfl
              refine ⟨fun a_ wx hR hD K hK => ?_, ?_⟩
              · have hG : Grew wr wx := (Grew.drew _).trans hR
                simp [Deps, Dep, at_, Is] at hD
                obtain ⟨hd0, hd1⟩ := hD
                go_simp
                exact hK _ _ (Grew.refl _) rfl
              refine ⟨fun a_ wx hR hD K hK => ?_, ?_⟩
              · have hG : Grew wr wx := (Grew.drew _).trans hR
                simp [Deps, Dep, at_, Is] at hD
                go_simp
                exact hK _ _ (Grew.refl _) rfl
              refine ⟨fun a_ wx hR hD K hK => ?_, ?_⟩
              · have hG : Grew wr wx := (Grew.drew _).trans hR
                simp [Deps, Dep, at_, Is] at hD
                go_simp
                exact hK _ _ (Grew.refl _) rfl
              refine ⟨fun a_ wx hR hD K hK => ?_, ?_⟩
              · have hG : Grew wr wx := (Grew.drew _).trans hR
                simp [Deps, Dep, at_, Is] at hD
                obtain ⟨hd0, hd1⟩ := hD
                go_simp
                exact hK _ _ (Grew.refl _) rfl
              refine ⟨fun a_ wx hR hD K hK => ?_, ?_⟩
              · have hG : Grew wr wx := (Grew.drew _).trans hR
                simp [Deps, Dep, at_, Is] at hD
                go_simp
                exact hK _ _ (Grew.refl _) rfl
              refine ⟨fun a_ wx hR hD K hK => ?_, ?_⟩
              · have hG : Grew wr wx := (Grew.drew _).trans hR
                simp [Deps, Dep, at_, Is] at hD
                have e_ := K1.out wx hG
                go_simp
                exact hK _ _ (Grew.refl _) rfl
              trivial
            · show EndHold _ _ _ _ _ _ _
              refine end_all (xs := [_, _, _, _, _, _, _, _, _, _, _, _, _]) ⟨rfl, rfl, rfl, rfl, rfl, rfl, rfl, rfl, rfl, rfl, rfl, rfl, rfl, trivial⟩ ?_
              rintro w3 hR1 -
              refine ⟨?_⟩
              have hG_w3 : Grew wr w3 := (Grew.drew _).trans hR1
              clear hR1
              simp only [Act.put, List.setIfInBounds_toArray, List.set_cons_succ, List.set_cons_zero, dropN, putEach]
              go_wp2_with fail
              go_roundw
              case rel => exact ⟨pre ++ [s], suf, told + tt, by simp, by rw [HTT.out], HP.out, HB1.out, HRO.out, hgr.trans hG_w3⟩
              case measure => simp [intOf]; omega
    · have hlt : pre.length < n := by simp at hnn; omega
      have d1 : decide ((pre.length : Int) < (n : Int)) = true := decide_eq_true (by omega)
      have d2 : decide (pre.length < n) = true := decide_eq_true hlt
      have i1 : (pre.length : Int) < (n : Int) := by omega
      obtain ⟨ad, hA, k0, k1, k2⟩ := rk_at HC.out pre suf s hp hlt
      subst hA
      have k0 := pw_cell_below hgr k0
      have k1 := pw_cell_below hgr k1
      have k2 := pw_cell_below hgr k2
      have HP := Lib.hid (show x = (pre ++ [s]) ++ suf from by rw [hp]; simp)
      have hw : IntKind.i64.wrap ((pre.length : Int) + 1) = (pre.length : Int) + 1 := by rw [IntWalk.i64_in _ (by omega)]
      obtain ⟨t, ht⟩ : ∃ t, t = tkA s := ⟨_, rfl⟩
      rw [← ht] at k0 k1 k2
      have HRT := Lib.hid (fun w => rright_c w t)
      have HALL := Lib.hid hall
      have HT := Lib.hid ht
      clear hp hnn hall ht
      cases hrt : rightT t with
      | false =>
        rw [hrt] at HRT
        have HV := Lib.hid (show rjoinV L = .tuple #[.string ⟨#[]⟩, .int .i64 1] from by
          unfold rjoinV joinR
          rw [HJ.out, if_neg]
          rw [HL.out, HP.out]
          simp [HT.out.symm, hrt])
        clear hrt
        go_wp2_with fail
        refine (HRT.out _).mono ?_
        rintro e w3 ⟨_, rfl, rfl, hg3⟩
        go_wp2_with fail
        go_ret2
        rw [HV.out]
        exact ⟨_, rfl, rfl, hgr.trans hg3⟩
      | true =>
        rw [hrt] at HRT
        have HA2 := Lib.hid (show ((pre ++ [s]).map tkA).all rightT = true from by
          rw [List.map_append, List.all_append, HALL.out]; simp [HT.out.symm, hrt])
        clear hrt
        go_wp2_with fail
        refine (HRT.out _).mono ?_
        rintro e w3 ⟨_, rfl, rfl, hg3⟩
        go_wp2_with fail
        go_roundw
        case rel => exact ⟨pre ++ [s], suf, by simp, HP.out, HA2.out, hgr.trans hg3⟩
        case measure => simp [intOf]; omega
end Go.Proofs.Ytehbebpemnanoaa.F

-- LzV
namespace Go.Proofs.Ytehbebpemnanoaa.F
open Go Go.RowKit Go.Proofs.YtehbebpemnanoaaW.PrintWords Go.Proofs.YtehbebpemnanoaaW.PrintLast Go.Proofs.YtehbebpemnanoaaW.PrintMore Go.Proofs.YtehbebpemnanoaaM Go.Proofs.YtehbebpemnanoaaR
attribute [local go_sem] max2_int min2_int max_two min_two
set_option linter.unusedSimpArgs false
set_option linter.unusedVariables false
set_option maxRecDepth 100000
theorem ex_size : sizeL [6, 1, 97, 98, 129, 0, 1] = (6, 0) := by decide +kernel
theorem ex_toks : tokensL [6, 1, 97, 98, 129, 0, 1] = some [⟨0, 0, strOfNums [97, 98]⟩, ⟨2, 4, ByteArray.empty⟩] := by
  unfold tokensL
  rw [ex_size, if_pos rfl]
  rw [show ((6, 0) : Int × Int).1.toNat = 6 from rfl, putL_lt (by decide)]
  rfl
theorem ex_exp : expL [⟨0, 0, strOfNums [97, 98]⟩, ⟨2, 4, ByteArray.empty⟩] = [97, 98, 97, 98, 97, 98] := by decide +kernel
theorem ex_str : strOfNums [97, 98, 97, 98, 97, 98] = ⟨#[97, 98, 97, 98, 97, 98]⟩ := rfl
theorem lives_c (w : World) : Calls Try.prog 9 #[] w (Tells w (Is (.bool true))) := by
  have hb := Blk.new w 5 (nums .u8 [6, 1, 97, 98, 129, 0, 1])
  have hU := unpack_c (w.alloc (.cells (nums .u8 [6, 1, 97, 98, 129, 0, 1]).toArray 5)) _ 7 [6, 1, 97, 98, 129, 0, 1] 6 (hb.C (k := .u8) (by decide)) (by decide) (by decide) (by decide) (by decide) (by decide)
  have hV : unpackV (w.alloc (.cells (nums .u8 [6, 1, 97, 98, 129, 0, 1]).toArray 5)).heap.size [6, 1, 97, 98, 129, 0, 1] 6 = fun w' v => ∃ v0, v = .tuple #[v0, .int .i64 0] ∧ Own8 (w.alloc (.cells (nums .u8 [6, 1, 97, 98, 129, 0, 1]).toArray 5)).heap.size [97, 98, 97, 98, 97, 98] w' v0 := by
    unfold unpackV
    rw [ex_size, if_neg (by decide), if_neg (by decide), ex_toks]
    simp only
    rw [ex_exp]
  rw [hV] at hU
  have HU := Lib.hid hU
  have hgw := Grew.alloc w (.cells (nums .u8 [6, 1, 97, 98, 129, 0, 1]).toArray 5)
  clear hU hV hb
  go_enter Try.func9, Try.ntmps9
  go_wp2_with fail
  refine HU.out.mono ?_
  rintro e w1 ⟨_, rfl, ⟨v0, rfl, hown⟩, hg1⟩
  obtain ⟨A0, c0, rfl, _, hc0, hC0⟩ := own_C hown
  have hcv := Kd.C_string (P := Try.prog) (c := c0) Try.underlying25 Try.underlying5 Try.underlying9 hC0
  rw [ex_str, show ([97, 98, 97, 98, 97, 98] : List Int).length = 6 from rfl] at hcv
  clear hown hC0 hc0
  go_wp2_with fail
  go_ret
  exact ⟨_, rfl, rfl, hgw.trans hg1⟩
end Go.Proofs.Ytehbebpemnanoaa.F

-- LzP
namespace Go.Proofs.Ytehbebpemnanoaa.F
open Go Go.RowKit Go.Proofs.YtehbebpemnanoaaW.PrintWords Go.Proofs.YtehbebpemnanoaaW.PrintLast Go.Proofs.YtehbebpemnanoaaW.PrintMore Go.Proofs.YtehbebpemnanoaaM Go.Proofs.YtehbebpemnanoaaR
attribute [local go_sem] max2_int min2_int max_two min_two
set_option linter.unusedSimpArgs false
set_option linter.unusedVariables false
set_option maxRecDepth 100000
theorem len_le_flat : ∀ L : List Tk, L.length ≤ (L.flatMap tokB).length
  | [] => by simp
  | t :: L => by
    have h1 := tokB_pos t
    have h2 := len_le_flat L
    simp only [List.flatMap_cons, List.length_append, List.length_cons]
    omega
theorem sizeL_lay {k : Nat} (L : List Tk) (hk : k ≤ 65536) (r : List Int) : sizeL (layL k L ++ r) = ((k : Int), 0) := by
  unfold sizeL layL
  have h := getL_put [] (L.flatMap tokB ++ r) k (by omega)
  rw [List.nil_append, show ((List.length ([] : List Int) : Nat) : Int) = 0 from rfl] at h
  rw [List.append_assoc, h, if_pos ⟨rfl, by simp; omega⟩]
theorem tokensL_lay {L : List Tk} (hg : goodL 0 L) (hk : tellL L ≤ 65536) : tokensL (layL (tellL L) L) = some L := by
  have hs := sizeL_lay L hk []
  rw [List.append_nil] at hs
  unfold tokensL
  rw [hs, if_pos rfl, Int.toNat_natCast]
  have hd : (layL (tellL L) L).drop (putL (tellL L)).length = L.flatMap tokB := by unfold layL; rw [List.drop_left']; rfl
  rw [hd]
  refine tokP_all L _ ?_ hg
  have := len_le_flat L
  unfold layL
  rw [List.length_append]
  omega
theorem layL_bytes {k : Nat} {L : List Tk} (hr : ∀ t ∈ L, rightT t = true) : ∀ x ∈ layL k L, 0 ≤ x ∧ x < 256 := by
  intro x hx
  unfold layL at hx
  rcases List.mem_append.1 hx with hx | hx
  · exact putL_bytes k x hx
  · obtain ⟨t, ht, hx⟩ := List.mem_flatMap.1 hx
    exact tokB_bytes t (hr t ht) x hx
theorem layL_len {k : Nat} (hk : k ≤ 65536) : ∀ {L : List Tk}, (∀ t ∈ L, rightT t = true) → (layL k L).length ≤ 10 + 129 * L.length := by
  intro L hr
  unfold layL
  rw [List.length_append]
  have h1 := putL_small hk
  have h2 : ∀ p : List Tk, (∀ t ∈ p, rightT t = true) → (p.flatMap tokB).length ≤ 129 * p.length := by
    intro p
    induction p with
    | nil => intro _; simp
    | cons t p ih =>
      intro hp
      have h1 := tokB_len t (hp t (by simp))
      have h2 := ih (fun t ht => hp t (by simp [ht]))
      simp only [List.flatMap_cons, List.length_append, List.length_cons]
      omega
  have := h2 L hr
  omega
theorem toList_beqL (a b : ByteArray) : (a.toList == b.toList) = decide (a = b) := by
  rw [Bool.eq_iff_iff]
  simp only [beq_iff_eq, decide_eq_true_eq]
  constructor
  · intro h
    rw [ByteArray.toList_eq, ByteArray.toList_eq] at h
    apply ByteArray.ext
    exact Array.toList_inj.1 h
  · rintro rfl; rfl
theorem conv_nil (w : World) : (convert 25 9 (.slice none 0 0)).run Try.prog w = .ok (.string ⟨#[]⟩) w :=
  Kd.C_string (P := Try.prog) (c := 0) Try.underlying25 Try.underlying5 Try.underlying9 (Kd.C_nil _ _)
end Go.Proofs.Ytehbebpemnanoaa.F

-- LzH
namespace Go.Proofs.Ytehbebpemnanoaa.F
open Go Go.RowKit Go.Proofs.YtehbebpemnanoaaW.PrintWords Go.Proofs.YtehbebpemnanoaaW.PrintLast Go.Proofs.YtehbebpemnanoaaW.PrintMore Go.Proofs.YtehbebpemnanoaaM Go.Proofs.YtehbebpemnanoaaR
attribute [local go_sem] max2_int min2_int max_two min_two
set_option linter.unusedSimpArgs false
set_option linter.unusedVariables false
set_option maxRecDepth 100000
/-- what is packed -/
def PackV (base : Nat) (l : List Int) : World → Value → Prop := fun w v => ∃ L v0, Chosen l L ∧ v = .tuple #[v0, .int .i64 0] ∧ Own8 base (layL l.length L) w v0
set_option maxHeartbeats 4000000 in
theorem pack_c (w : World) (A : Option Addr) (n c : Nat) (l : List Int) (hr : Kd.C (Kd.int .u8) w A n l) (hn : l.length = n) (hc : n ≤ c) (hb : ∀ x ∈ l, 0 ≤ x ∧ x < 256) (hn2 : n ≤ 65536) :
    Calls Try.prog 15 #[.slice A n c] w (Tells w (PackV w.heap.size l)) := by
  have HCH := Lib.hid (choose_c w A n c l hr hn hc hb hn2)
  have y1 : decide ((65536 : Int) < (n : Int)) = false := decide_eq_false (by omega)
  have y2 : decide (65536 < n) = false := decide_eq_false (by omega)
  have HN := Lib.hid hn
  clear hr hn hb
  go_enter Try.func15, Try.ntmps15
  go_wp2_with fail
  refine HCH.out.mono ?_
  rintro e w1 ⟨v1, rfl, ⟨L, hch, hown⟩, hg1⟩
  obtain ⟨A1, c1, rfl, hc1, hC1⟩ := tk_C hown rfl
  have hl1 : L.length ≤ 65536 := by
    have := good_len L 0 hch.2.1
    rw [hch.2.2.1, HN.out] at this
    omega
  have HLAY := Lib.hid (lay_c w1 A1 L.length c1 n L hC1 rfl hc1 (goodL_right L 0 hch.2.1) (by omega) hn2)
  have HCHO := Lib.hid hch
  clear hch hown hC1 hc1 hl1
  go_wp2_with fail
  refine HLAY.out.mono ?_
  rintro e w2 ⟨v2, rfl, ho2, hg2⟩
  have HO2 := Lib.hid ho2
  clear ho2
  go_wp2_with fail
  go_ret2
  exact ⟨_, rfl, ⟨L, _, HCHO.out, rfl, by rw [HN.out]; exact own_weaken HO2.out hg1.size⟩, hg1.trans hg2⟩
theorem pack_no (w : World) (A : Option Addr) (n c : Nat) (hn2 : 65536 < n) :
    Calls Try.prog 15 #[.slice A n c] w (Tells w (Is (.tuple #[.slice none 0 0, .int .i64 2]))) := by
  have y1 : decide ((65536 : Int) < (n : Int)) = true := decide_eq_true (by omega)
  have y2 : decide (65536 < n) = true := decide_eq_true hn2
  go_enter Try.func15, Try.ntmps15
  go_wp2_with fail
  go_ret2
  exact ⟨_, rfl, rfl, Grew.refl _⟩
/-- of what is packed -/
theorem pack_facts {l : List Int} {L : List Tk} (h : Chosen l L) (hl : l.length ≤ 65536) : sizeL (layL l.length L) = ((l.length : Int), 0) ∧ tokensL (layL l.length L) = some L ∧ expL L = l ∧ (layL l.length L).length ≤ l.length + l.length / 128 + 4 ∧ (∀ x ∈ layL l.length L, 0 ≤ x ∧ x < 256) ∧ (∀ c, (∀ x ∈ l, x = c) → (layL l.length L).length ≤ 12 + l.length / 20) := by
  obtain ⟨h1, h2, h3, h4, h5⟩ := h
  have hp := putL_small hl
  have hs := sizeL_lay (k := l.length) L hl []
  rw [List.append_nil] at hs
  have hlen : (layL l.length L).length = (putL l.length).length + costL L := by unfold layL costL; rw [List.length_append]
  refine ⟨hs, ?_, h1, by omega, layL_bytes (goodL_right L 0 h2), fun c hc => by have := h5 c hc; omega⟩
  have := tokensL_lay h2 (by omega)
  rw [h3] at this
  exact this
end Go.Proofs.Ytehbebpemnanoaa.F

-- LzQ
namespace Go.Proofs.Ytehbebpemnanoaa.F
open Go Go.RowKit Go.Proofs.YtehbebpemnanoaaW.PrintWords Go.Proofs.YtehbebpemnanoaaW.PrintLast Go.Proofs.YtehbebpemnanoaaW.PrintMore Go.Proofs.YtehbebpemnanoaaM Go.Proofs.YtehbebpemnanoaaR
set_option linter.unusedSimpArgs false
set_option linter.unusedVariables false
set_option maxRecDepth 100000
theorem C_cut {A : Option Addr} {n : Nat} {l : List Int} {w : World} {k : IntKind} (h : Kd.C (Kd.int k) w A n l) (m : Nat) (hm : m ≤ n) : Kd.C (Kd.int k) w A m (l.take m) := by
  obtain ⟨h1, h2, h3⟩ := reads_of h
  refine C_of ⟨by rw [List.length_take]; omega, by omega, fun hp => ?_⟩
  obtain ⟨ad, rfl, hc⟩ := h3 (by omega)
  refine ⟨ad, rfl, fun j hj => ?_⟩
  have := hc j (by omega)
  rw [this]
  congr 2
  simp [List.getD, List.getElem?_take, hj]
theorem cut_size (L : List Tk) (n cut : Nat) (hn : n ≤ 65536) (hc : cut < (putL n).length) : sizeL ((layL n L).take cut) = (0, 4) := by
  have e : (layL n L).take cut = ([] ++ putL n).take cut := by
    unfold layL
    rw [List.take_append_of_le_length (by omega), List.nil_append]
  have := getL_cut [] n cut (by omega) (by simp) (by simpa using hc)
  unfold sizeL
  rw [e]
  rw [show ((List.length ([] : List Int) : Nat) : Int) = 0 from rfl] at this
  rw [this, if_neg (by simp)]
theorem cut_toks (L : List Tk) (n cut : Nat) (hn : n ≤ 65536) (hg : goodL 0 L) (ht : tellL L = n) (hc : cut < (layL n L).length) : sizeL ((layL n L).take cut) = (0, 4) ∨ (sizeL ((layL n L).take cut) = ((n : Int), 0) ∧ tokensL ((layL n L).take cut) = none) := by
  by_cases h : cut < (putL n).length
  · exact .inl (cut_size L n cut hn h)
  · refine .inr ?_
    have hl : (layL n L).length = (putL n).length + (L.flatMap tokB).length := by unfold layL; rw [List.length_append]
    have e : (layL n L).take cut = layL n [] ++ (L.flatMap tokB).take (cut - (putL n).length) := by
      unfold layL
      rw [List.take_append, List.take_of_length_le (by omega)]
      simp
    have hs : sizeL ((layL n L).take cut) = ((n : Int), 0) := by rw [e]; exact sizeL_lay [] hn _
    refine ⟨hs, ?_⟩
    unfold tokensL
    rw [hs, if_pos rfl, Int.toNat_natCast]
    have hd : ((layL n L).take cut).drop (putL n).length = (L.flatMap tokB).take (cut - (putL n).length) := by
      rw [e]; unfold layL; rw [List.flatMap_nil, List.append_nil, List.drop_left']; rfl
    rw [hd]
    exact tokP_cut n L _ 0 _ [] hg (by omega) (by omega)
theorem more_toks (L : List Tk) (n : Nat) (c : Int) (hn : n ≤ 65536) (hc : 0 ≤ c) (hg : goodL 0 L) (ht : tellL L = n) : tokensL (layL n L ++ [c]) = none := by
  have hs := sizeL_lay L hn [c]
  unfold tokensL
  rw [hs, if_pos rfl, Int.toNat_natCast]
  have hd : (layL n L ++ [c]).drop (putL n).length = L.flatMap tokB ++ [c] := by
    unfold layL; rw [List.append_assoc, List.drop_left']; rfl
  rw [hd]
  have := tokP_more L ((layL n L ++ [c]).length + 1) c hc (by
    have := len_le_flat L
    unfold layL
    simp only [List.length_append]
    omega) hg
  rw [ht] at this
  exact this
theorem cut_unpack (base : Nat) (L : List Tk) (n cut : Nat) (hn : n ≤ 65536) (hg : goodL 0 L) (ht : tellL L = n) (hc : cut < (layL n L).length) : unpackV base ((layL n L).take cut) n = fun w v => v = .tuple #[.slice none 0 0, .int .i64 4] := by
  unfold unpackV
  rcases cut_toks L n cut hn hg ht hc with h | ⟨h1, h2⟩
  · rw [h, if_pos (by simp)]
  · rw [h1, if_neg (by simp), if_neg (by simp <;> omega), h2]
theorem less_unpack (base : Nat) (l : List Int) (n : Nat) (hs : sizeL l = ((n : Int), 0)) (hp : 0 < n) : unpackV base l ((n : Int) - 1) = fun w v => v = .tuple #[.slice none 0 0, .int .i64 2] := by
  unfold unpackV
  rw [hs, if_neg (by simp), if_pos (by simp <;> omega)]
theorem full_unpack (base : Nat) (l : List Int) (L : List Tk) (n : Nat) (most : Int) (hs : sizeL l = ((n : Int), 0)) (hm : (n : Int) ≤ max most 0) (ht : tokensL l = some L) : unpackV base l most = fun w v => ∃ v0, v = .tuple #[v0, .int .i64 0] ∧ Own8 base (expL L) w v0 := by
  unfold unpackV
  rw [hs, if_neg (by simp), if_neg (by simp <;> omega), ht]
/-- a row and one byte more behind nothing -/
theorem all_two (w : World) (A : Option Addr) (n c : Nat) (l : List Int) (more : Int) (hC : Kd.C (Kd.int .u8) w A n l) (hn : l.length = n) (hn2 : n ≤ 100000) :
    ∃ A1 c1 w1, (Builtin.append_ #[25, 25] 25 #[.slice (some ⟨w.heap.size, 0, none⟩) 0 0, .slice A n c]).run Try.prog (w.alloc (.cells #[] 5)) = .ok (.slice A1 n c1) w1 ∧ Grew w w1 ∧
      ∃ A2 c2 w2, (Builtin.append_ #[25, 25] 25 #[.slice A1 n c1, .slice (some ⟨w1.heap.size, 0, none⟩) 1 1]).run Try.prog (w1.alloc (.cells #[.int .u8 more] 5)) = .ok (.slice A2 (n + 1) c2) w2 ∧ Grew w w2 ∧ n + 1 ≤ c2 ∧ Kd.C (Kd.int .u8) w2 A2 (n + 1) (l ++ [more]) := by
  have hb0 : Blk (w.alloc (.cells #[] 5)) w.heap.size 5 (nums .u8 []) := Blk.new w 5 []
  have ho0 := hb0.own (base := w.heap.size) (n := 0) (Nat.le_refl _) (by simp) (by simp)
  have hg0 := Grew.alloc w (.cells #[] 5)
  obtain ⟨v1, w1, hr1, hA1⟩ := app_num (P := Try.prog) (k := .u8) (w.alloc (.cells #[] 5)) w.heap.size 25 5 25 1 Try.underlying25 info5 (by omega) _ [] l A n c (by simpa using ho0) (reads_of (Kd.C_below hC hg0)) hg0.size (by simp; omega)
  have ho1 := hA1.1
  rw [List.nil_append, hn] at ho1
  have hg1 : Grew w w1 := ((Upd.of_grew (S := fun _ => False) hg0).then_ hA1.upd (fun i hi h => by simp [Value.ownBlock] at h; omega)).grew fun i _ h => h
  obtain ⟨A1, c1, rfl⟩ := own_slice ho1
  refine ⟨A1, c1, w1, hr1, hg1, ?_⟩
  have hb1 : Blk (w1.alloc (.cells #[.int .u8 more] 5)) w1.heap.size 5 [.int .u8 more] := Blk.new w1 5 [.int .u8 more]
  have hg2 := Grew.alloc w1 (.cells #[.int .u8 more] 5)
  obtain ⟨v2, w2, hr2, ho2, hg3, -⟩ := app_cells (P := Try.prog) (w1.alloc (.cells #[.int .u8 more] 5)) w.heap.size 25 5 25 (.int .u8 0) 1 1 Try.underlying25 info5 rfl (by omega) (by omega) _ n (nums .u8 l) w1.heap.size [.int .u8 more] rfl (by simp [Value.oneCell']) (pw_own_below ho1 hg2) hb1 (hg1.trans hg2).size (by omega)
  have e : nums .u8 l ++ [Value.int .u8 more] = nums .u8 (l ++ [more]) := by simp [nums]
  rw [e] at ho2
  obtain ⟨A2, c2, rfl, -, hc2, hC2⟩ := own_C ho2
  refine ⟨A2, c2, w2, hr2, ?_, hc2, hC2⟩
  exact ((Upd.of_grew (S := fun _ => False) (hg1.trans hg2)).then_ (Upd.of_grown hg3) (fun i hi h => by have := own_base ho1 i h; omega)).grew fun i _ h => h
end Go.Proofs.Ytehbebpemnanoaa.F

-- Open
namespace Go.Proofs.YtehbebpemnanoaaO
set_option linter.unusedSimpArgs false
open Go Go.RowKit Go.ChangeShapes Go.WideShapes Go.ChangeAt Go.Proofs.YtehbebpemnanoaaW.PrintWords
/-- cells of type t that can be read as data are some x of kind d -/
def Opens {α : Type} (P : Program) (t : TypeId) (d : Kd α) (ok : α → Prop) : Prop :=
  ∀ (H : Type) (enc : TypeId × Value → H) (W : World) (sp : Nat → Bool) (held : Bool) (fuel : Nat) (cs : List Value) (y : DataW H × List MemPlace), DataW.trod enc P W 0 sp held fuel t cs = some y → ∃ x, d.K W x cs ∧ ok x
section
variable {P : Program} {α : Type}
theorem opens_int {t : TypeId} {k : IntKind} (hu : P.underlying t = some (.int k)) : Opens P t (Kd.int k) (fun x => (Lit.int k x).wf = true) := by
  intro H enc W sp held fuel cs y h
  cases fuel with
  | zero => simp [DataW.trod] at h
  | succ n =>
    have key : ∃ n', cs = [.int k n'] ∧ (Lit.int k n').wf = true := by
      simp only [DataW.trod, hu] at h
      split at h <;> simp_all
    obtain ⟨x, rfl, hx⟩ := key
    exact ⟨x, rfl, hx⟩
theorem opens_bool {t : TypeId} (hu : P.underlying t = some .bool) : Opens P t Kd.bool (fun _ => True) := by
  intro H enc W sp held fuel cs y h
  cases fuel with
  | zero => simp [DataW.trod] at h
  | succ n =>
    have key : ∃ b, cs = [.bool b] := by
      simp only [DataW.trod, hu] at h
      split at h <;> simp_all
    obtain ⟨x, rfl⟩ := key
    exact ⟨x, rfl, trivial⟩
theorem opens_string {t : TypeId} (hu : P.underlying t = some .string) : Opens P t Kd.string (fun s => s.size ≤ maxLen) := by
  intro H enc W sp held fuel cs y h
  cases fuel with
  | zero => simp [DataW.trod] at h
  | succ n =>
    simp only [DataW.trod, hu] at h
    split at h <;> simp_all
    exact ⟨_, rfl, h.1⟩
theorem mapM_get {β γ : Type} {f : β → Option γ} : ∀ {l : List β} {ys : List γ}, l.mapM f = some ys → ys.length = l.length ∧ ∀ (i : Nat) (x : β), l[i]? = some x → ∃ y, f x = some y
  | [], ys, h => by simp at h; subst h; simp
  | a :: l, ys, h => by
    simp only [List.mapM_cons] at h
    obtain ⟨b, hb, h⟩ := Option.bind_eq_some_iff.1 h
    obtain ⟨bs, hbs, h⟩ := Option.bind_eq_some_iff.1 h
    simp at h
    subst h
    have ih := mapM_get hbs
    refine ⟨by simp [ih.1], fun i x hx => ?_⟩
    cases i with
    | zero => simp at hx; subst hx; exact ⟨b, hb⟩
    | succ i => simp at hx; exact ih.2 i x hx
theorem choose_list {ok : α → Prop} {Q : Nat → α → Prop} : ∀ n : Nat, (∀ i, i < n → ∃ x, Q i x ∧ ok x) → ∃ xs : List α, xs.length = n ∧ (∀ (i : Nat) (x : α), xs[i]? = some x → Q i x) ∧ ∀ x ∈ xs, ok x
  | 0, _ => ⟨[], rfl, by simp, by simp⟩
  | n + 1, h => by
    obtain ⟨xs, h1, h2, h3⟩ := choose_list n (fun i hi => h i (by omega))
    obtain ⟨x, hx, hk⟩ := h n (by omega)
    refine ⟨xs ++ [x], by simp [h1], fun i y hy => ?_, fun y hy => ?_⟩
    · rcases Nat.lt_or_ge i n with hlt | hge
      · rw [List.getElem?_append_left (by omega)] at hy; exact h2 i y hy
      · rw [List.getElem?_append_right (by omega)] at hy
        have : i = n := by
          rcases Nat.lt_or_ge n i with h' | h'
          · rw [List.getElem?_eq_none (by simp; omega)] at hy; cases hy
          · omega
        subst this
        simp [h1] at hy
        subst hy; exact hx
    · rcases List.mem_append.1 hy with hy | hy
      · exact h3 y hy
      · simp at hy; subst hy; exact hk
theorem cells_get {W : World} {a : Addr} {n : Nat} {cs : List Value} (h : W.cells? 0 a n = some cs) : cs.length = n ∧ ∀ (i : Nat) (u : Value), cs[i]? = some u → W.cell? (a.add i) = some u := by
  unfold World.cells? at h
  rw [if_pos (Nat.zero_le _)] at h
  have h1 := mapM_get h
  refine ⟨by simpa using h1.1, fun i u hu => ?_⟩
  have hi : i < n := by
    have := (List.getElem?_eq_some_iff.1 hu).1
    rw [h1.1] at this; simpa using this
  obtain ⟨y, hy⟩ := h1.2 i i (by simp [hi])
  have key : ∀ (l : List Nat) (ys : List Value), l.mapM (fun i => W.cell? (a.add i)) = some ys → ∀ (j : Nat), ys[j]? = (l[j]?).bind fun i => W.cell? (a.add i) := by
    intro l
    induction l with
    | nil => intro ys h j; simp at h; subst h; simp
    | cons b l ih =>
      intro ys h j
      simp only [List.mapM_cons] at h
      obtain ⟨c, hc, h⟩ := Option.bind_eq_some_iff.1 h
      obtain ⟨cs', hcs, h⟩ := Option.bind_eq_some_iff.1 h
      simp at h; subst h
      cases j with
      | zero => simp [hc]
      | succ j => simpa using ih cs' hcs j
  have := key _ _ h i
  rw [hu] at this
  simp [hi] at this
  exact this.symm
theorem opens_slice {t e : TypeId} {d : Kd α} {ok : α → Prop} (hu : P.underlying t = some (.slice e)) (he : Opens P e d ok) (hc : P.cellsOf e = d.sz) : Opens P t (Kd.slice e d) (fun xs => ∀ x ∈ xs, ok x) := by
  intro H enc W sp held fuel cs y h
  cases fuel with
  | zero => simp [DataW.trod] at h
  | succ n =>
    have key : cs = [.slice none 0 0] ∨ ∃ a len cap, cs = [.slice (some a) len cap] ∧ len ≤ cap ∧ cap ≤ maxLen ∧ ∃ elems, (List.range len).mapM (fun i => (W.cells? 0 (a.add (i * P.cellsOf e)) (P.cellsOf e)).bind (DataW.trod enc P W 0 sp held n e)) = some elems := by
      simp only [DataW.trod, hu] at h
      split at h <;> try (simp_all; done)
      rename_i e' a len cap heq
      simp only [Option.some.injEq, TypeDesc.slice.injEq] at heq
      subst heq
      split at h
      · rename_i hb
        obtain ⟨elems, he1, _⟩ := Option.bind_eq_some_iff.1 h
        exact .inr ⟨a, len, cap, rfl, hb.2.1, hb.2.2, elems, he1⟩
      · cases h
    rcases key with rfl | ⟨a, len, cap, rfl, h1, h2, elems, he1⟩
    · exact ⟨[], ⟨none, 0, rfl, by simp, by simp [Kd.C, ReadsRow]⟩, by simp⟩
    · rw [hc] at he1
      have hm := mapM_get he1
      obtain ⟨xs, x1, x2, x3⟩ := choose_list (ok := ok) (Q := fun i x => ∃ c, W.cells? 0 (a.add (i * d.sz)) d.sz = some c ∧ d.K W x c) len (fun i hi => by
        obtain ⟨z, hz⟩ := hm.2 i i (by simp [hi])
        obtain ⟨c, hc1, hc2⟩ := Option.bind_eq_some_iff.1 hz
        obtain ⟨x, hx, hk⟩ := he H enc W sp held n c z hc2
        exact ⟨x, ⟨c, hc1, hx⟩, hk⟩)
      refine ⟨xs, ⟨some a, cap, by rw [x1], by omega, ?_⟩, x3⟩
      refine ⟨rfl, by have : maxLen = 9223372036854775807 := rfl; omega, fun _ => ⟨a, rfl, fun j p hp => ?_⟩⟩
      obtain ⟨c, hc1, hk⟩ := x2 j p hp
      have hg := cells_get hc1
      refine ⟨c, hg.1, hk, fun i u hiu => ?_⟩
      have := hg.2 i u hiu
      rw [← this]
      congr 1
      unfold Addr.add
      by_cases z1 : j * d.sz = 0
      · rw [if_pos z1]
        by_cases z2 : i = 0
        · simp [z1, z2]
        · rw [if_neg (by omega), if_neg z2]; simp [z1]
      · rw [if_neg z1, if_neg (by omega)]
        by_cases z2 : i = 0
        · simp [z2]
        · rw [if_neg z2]; simp [Nat.add_assoc]
theorem opens_array {t e n : Nat} {d : Kd α} {ok : α → Prop} (hs : 0 < d.sz) (hu : P.underlying t = some (.array n e)) (he : Opens P e d ok) (hc : P.cellsOf e = d.sz) (ht : P.cellsOf t = n * d.sz) : Opens P t (Kd.arr n d hs) (fun xs => ∀ x ∈ xs, ok x) := by
  intro H enc W sp held fuel cs y h
  cases fuel with
  | zero => simp [DataW.trod] at h
  | succ m =>
    simp only [DataW.trod, hu] at h
    split at h
    · rename_i hl
      obtain ⟨ys, hy, _⟩ := Option.map_eq_some_iff.1 h
      have hm := mapM_get hy
      obtain ⟨xs, x1, x2, x3⟩ := choose_list (ok := ok) (Q := fun i x => d.K W x ((cs.drop (i * d.sz)).take d.sz)) n (fun i hi => by
        obtain ⟨z, hz⟩ := hm.2 i i (by simp [hi])
        rw [hc] at hz
        exact he H enc W sp held m _ z hz)
      exact ⟨xs, ⟨x1, by rw [x1, hl, ht], x2⟩, x3⟩
    · cases h
/-- an argument of a kind -/
theorem opens_arg {t : TypeId} {d : Kd α} {ok : α → Prop} (ho : Opens P t d ok) {H : Type} {enc : TypeId × Value → H} {W : World} {sp : Nat → Bool} {held : Bool} {v : Value} {y : DataW H} {ps : List MemPlace} (h : DataW.Trod enc P W 0 sp held t v y ps) : ∃ x, d.K W x v.cells.toList ∧ ok x := by
  obtain ⟨fuel, hf⟩ := h
  exact ho H enc W sp held fuel _ _ hf
theorem okWide_array {t n e : Nat} {r : Reach} {b0 : Nat} {v : Value} {W : World} (hu : P.underlying t = some (.array n e)) (h : Value.okWide P W r b0 t v) : ∃ cs, v = .agg cs ∧ cs.size = P.cellsOf t := by
  simp only [Value.okWide, hu] at h
  obtain ⟨cs, h1, h2, _⟩ := h
  exact ⟨cs, h1, h2⟩
theorem arr2 {d : Kd α} {hs : 0 < d.sz} (h1 : d.sz = 1) {W : World} {x : List α} {cs : Array Value} (h : (Kd.arr 2 d hs).K W x cs.toList) : ∃ a b c0 c1, x = [a, b] ∧ cs = #[c0, c1] ∧ d.K W a [c0] ∧ d.K W b [c1] := by
  obtain ⟨hl, hc, hr⟩ := h
  rw [hl, h1] at hc
  obtain ⟨l⟩ := cs
  match x, hl, l, hc, hr with
  | [a, b], _, [c0, c1], _, hr => exact ⟨a, b, c0, c1, rfl, rfl, by have := hr 0 a rfl; rw [h1] at this; exact this, by have := hr 1 b rfl; rw [h1] at this; exact this⟩
theorem arr3 {d : Kd α} {hs : 0 < d.sz} (h1 : d.sz = 1) {W : World} {x : List α} {cs : Array Value} (h : (Kd.arr 3 d hs).K W x cs.toList) : ∃ a b c c0 c1 c2, x = [a, b, c] ∧ cs = #[c0, c1, c2] ∧ d.K W a [c0] ∧ d.K W b [c1] ∧ d.K W c [c2] := by
  obtain ⟨hl, hc, hr⟩ := h
  rw [hl, h1] at hc
  obtain ⟨l⟩ := cs
  match x, hl, l, hc, hr with
  | [a, b, c], _, [c0, c1, c2], _, hr => exact ⟨a, b, c, c0, c1, c2, rfl, rfl, by have := hr 0 a rfl; rw [h1] at this; exact this, by have := hr 1 b rfl; rw [h1] at this; exact this, by have := hr 2 c rfl; rw [h1] at this; exact this⟩
end
end Go.Proofs.YtehbebpemnanoaaO

-- OpenW
namespace Go.Proofs.YtehbebpemnanoaaO
set_option linter.unusedSimpArgs false
open Go Go.RowKit Go.ChangeShapes Go.WideShapes Go.ChangeAt Go.Proofs.YtehbebpemnanoaaW.PrintWords
/-- cells of type t that can be read as data of no more weight than is reached are some x of kind d -/
def OpensW {α : Type} (P : Program) (t : TypeId) (d : Kd α) (ok : α → Prop) : Prop :=
  ∀ (H : Type) (enc : TypeId × Value → H) (W : World) (sp : Nat → Bool) (held : Bool) (fuel : Nat) (cs : List Value) (y : DataW H × List MemPlace), DataW.trod enc P W 0 sp held fuel t cs = some y → (∀ n ∈ y.1.weights P t, n ≤ reachBytes) → ∃ x, d.K W x cs ∧ ok x
section
variable {P : Program} {α : Type}
theorem Opens.w {t : TypeId} {d : Kd α} {ok : α → Prop} (h : Opens P t d ok) : OpensW P t d ok := fun H enc W sp held fuel cs y hy _ => h H enc W sp held fuel cs y hy
theorem opensW_string {t : TypeId} (hu : P.underlying t = some .string) : OpensW P t Kd.string (fun s => s.size ≤ 140737488351232) := by
  intro H enc W sp held fuel cs y h hw
  cases fuel with
  | zero => simp [DataW.trod] at h
  | succ n =>
    have key : ∃ s, cs = [.string s] ∧ y.1 = .lit (.string s.data.toList) := by
      simp only [DataW.trod, hu] at h
      split at h <;> simp_all
      rw [← h.2]
    obtain ⟨s, rfl, hy⟩ := key
    refine ⟨s, rfl, ?_⟩
    have := hw s.size (by rw [hy]; simp [DataW.weights])
    exact this
theorem mapM_mem {β γ : Type} {f : β → Option γ} : ∀ {l : List β} {ys : List γ}, l.mapM f = some ys → ∀ (x : β) (z : γ), x ∈ l → f x = some z → z ∈ ys
  | [], ys, h, x, z, hx, _ => by simp at hx
  | a :: l, ys, h, x, z, hx, hz => by
    simp only [List.mapM_cons] at h
    obtain ⟨b, hb, h⟩ := Option.bind_eq_some_iff.1 h
    obtain ⟨bs, hbs, h⟩ := Option.bind_eq_some_iff.1 h
    simp at h
    subst h
    rcases List.mem_cons.1 hx with rfl | hx
    · rw [hb] at hz; injection hz with hz; subst hz; simp
    · exact List.mem_cons_of_mem _ (mapM_mem hbs x z hx hz)
theorem weightsAll_mem {H : Type} {e : TypeId} {d : DataW H} {n : Nat} : ∀ {ds : List (DataW H)}, d ∈ ds → n ∈ d.weights P e → n ∈ DataW.weightsAll P e ds
  | [], h, _ => by simp at h
  | a :: ds, h, hn => by
    simp only [DataW.weightsAll]
    rcases List.mem_cons.1 h with rfl | h
    · exact List.mem_append_left _ hn
    · exact List.mem_append_right _ (weightsAll_mem h hn)
theorem opensW_slice {t e : TypeId} {d : Kd α} {ok : α → Prop} (hu : P.underlying t = some (.slice e)) (he : OpensW P e d ok) (hc : P.cellsOf e = d.sz) : OpensW P t (Kd.slice e d) (fun xs => ∀ x ∈ xs, ok x) := by
  intro H enc W sp held fuel cs y h hw
  cases fuel with
  | zero => simp [DataW.trod] at h
  | succ n =>
    have key : cs = [.slice none 0 0] ∨ ∃ a len cap, cs = [.slice (some a) len cap] ∧ len ≤ cap ∧ cap ≤ maxLen ∧ ∃ elems rest, (List.range len).mapM (fun i => (W.cells? 0 (a.add (i * P.cellsOf e)) (P.cellsOf e)).bind (DataW.trod enc P W 0 sp held n e)) = some elems ∧ y.1 = .slice (elems.map (·.1)) rest := by
      simp only [DataW.trod, hu] at h
      split at h <;> try (simp_all; done)
      rename_i e' a len cap heq
      simp only [Option.some.injEq, TypeDesc.slice.injEq] at heq
      subst heq
      split at h
      · rename_i hb
        obtain ⟨elems, he1, h⟩ := Option.bind_eq_some_iff.1 h
        obtain ⟨rest, _, h⟩ := Option.map_eq_some_iff.1 h
        refine .inr ⟨a, len, cap, rfl, hb.2.1, hb.2.2, elems, rest.map (·.1), he1, ?_⟩
        rw [← h]
      · cases h
    rcases key with rfl | ⟨a, len, cap, rfl, h1, h2, elems, rest, he1, hy⟩
    · exact ⟨[], ⟨none, 0, rfl, by simp, by simp [Kd.C, ReadsRow]⟩, by simp⟩
    · rw [hc] at he1
      have hm := mapM_get he1
      obtain ⟨xs, x1, x2, x3⟩ := choose_list (ok := ok) (Q := fun i x => ∃ c, W.cells? 0 (a.add (i * d.sz)) d.sz = some c ∧ d.K W x c) len (fun i hi => by
        obtain ⟨z, hz⟩ := hm.2 i i (by simp [hi])
        have hmem := mapM_mem he1 i z (by simp [hi]) hz
        obtain ⟨c, hc1, hc2⟩ := Option.bind_eq_some_iff.1 hz
        obtain ⟨x, hx, hk⟩ := he H enc W sp held n c z hc2 (fun q hq => hw q (by
          rw [hy]
          simp only [DataW.weights, hu]
          exact List.mem_cons_of_mem _ (List.mem_append_left _ (weightsAll_mem (List.mem_map_of_mem hmem) hq))))
        exact ⟨x, ⟨c, hc1, hx⟩, hk⟩)
      refine ⟨xs, ⟨some a, cap, by rw [x1], by omega, ?_⟩, x3⟩
      refine ⟨rfl, by have : maxLen = 9223372036854775807 := rfl; omega, fun _ => ⟨a, rfl, fun j p hp => ?_⟩⟩
      obtain ⟨c, hc1, hk⟩ := x2 j p hp
      have hg := cells_get hc1
      refine ⟨c, hg.1, hk, fun i u hiu => ?_⟩
      have := hg.2 i u hiu
      rw [← this]
      congr 1
      unfold Addr.add
      by_cases z1 : j * d.sz = 0
      · rw [if_pos z1]
        by_cases z2 : i = 0
        · simp [z1, z2]
        · rw [if_neg (by omega), if_neg z2]; simp [z1]
      · rw [if_neg z1, if_neg (by omega)]
        by_cases z2 : i = 0
        · simp [z2]
        · rw [if_neg z2]; simp [Nat.add_assoc]
theorem opensW_array {t e n : Nat} {d : Kd α} {ok : α → Prop} (hs : 0 < d.sz) (hu : P.underlying t = some (.array n e)) (he : OpensW P e d ok) (hc : P.cellsOf e = d.sz) (ht : P.cellsOf t = n * d.sz) : OpensW P t (Kd.arr n d hs) (fun xs => ∀ x ∈ xs, ok x) := by
  intro H enc W sp held fuel cs y h hw
  cases fuel with
  | zero => simp [DataW.trod] at h
  | succ m =>
    simp only [DataW.trod, hu] at h
    split at h
    · rename_i hl
      obtain ⟨ys, hy, hyy⟩ := Option.map_eq_some_iff.1 h
      have hm := mapM_get hy
      obtain ⟨xs, x1, x2, x3⟩ := choose_list (ok := ok) (Q := fun i x => d.K W x ((cs.drop (i * d.sz)).take d.sz)) n (fun i hi => by
        obtain ⟨z, hz⟩ := hm.2 i i (by simp [hi])
        have hmem := mapM_mem hy i z (by simp [hi]) hz
        rw [hc] at hz
        exact he H enc W sp held m _ z hz (fun q hq => hw q (by
          rw [← hyy]
          simp only [DataW.weights, hu]
          exact weightsAll_mem (List.mem_map_of_mem hmem) hq)))
      exact ⟨xs, ⟨x1, by rw [x1, hl, ht], x2⟩, x3⟩
    · cases h
/-- an argument of a kind -/
theorem opensW_arg {t : TypeId} {d : Kd α} {ok : α → Prop} (ho : OpensW P t d ok) {H : Type} {enc : TypeId × Value → H} {W : World} {sp : Nat → Bool} {held : Bool} {v : Value} {y : DataW H} {ps : List MemPlace} {ts : List TypeId} {ds : List (DataW H)} {j : Nat}
    (hsz : (DataW.weightsEach P ts ds).all (· ≤ reachBytes) = true) (ht : ts[j]? = some t) (hd : ds[j]? = some y) (h : DataW.Trod enc P W 0 sp held t v y ps) : ∃ x, d.K W x v.cells.toList ∧ ok x := by
  obtain ⟨fuel, hf⟩ := h
  exact ho H enc W sp held fuel _ _ hf (fun n hn => by
    have := List.all_eq_true.1 hsz _ (DataW.weights_mem_each ht hd n hn)
    simpa using this)
end
end Go.Proofs.YtehbebpemnanoaaO

-- OpenS
namespace Go.Proofs.YtehbebpemnanoaaO
set_option linter.unusedSimpArgs false
open Go Go.RowKit Go.ChangeShapes Go.WideShapes Go.ChangeAt Go.Proofs.YtehbebpemnanoaaW.PrintWords
section
variable {P : Program} {α β : Type}
/-- the fields from a place on -/
def OpensF (P : Program) (fs : List Field) (off : Nat) (d : Kd α) (ok : α → Prop) : Prop :=
  ∀ (H : Type) (enc : TypeId × Value → H) (W : World) (sp : Nat → Bool) (held : Bool) (fuel : Nat) (cs : List Value) (ys : List (DataW H × List MemPlace)),
    fs.mapM (fun f => DataW.trod enc P W 0 sp held fuel f.type ((cs.drop f.offset).take (P.cellsOf f.type))) = some ys → (∀ n ∈ DataW.weightsEach P (fs.map (·.type)) (ys.map (·.1)), n ≤ reachBytes) →
    ∃ x, d.K W x ((cs.drop off).take d.sz) ∧ ok x
theorem opensF_one {f : Field} {d : Kd α} {ok : α → Prop} (h : OpensW P f.type d ok) (hc : P.cellsOf f.type = d.sz) : OpensF P [f] f.offset d ok := by
  intro H enc W sp held fuel cs ys hy hw
  simp only [List.mapM_cons, List.mapM_nil] at hy
  obtain ⟨y, hy1, hy⟩ := Option.bind_eq_some_iff.1 hy
  simp at hy
  subst hy
  rw [hc] at hy1
  exact h H enc W sp held fuel _ y hy1 fun n hn => hw n (by simp [DataW.weightsEach, hn])
theorem opensF_cons {f : Field} {fs : List Field} {d : Kd α} {d2 : Kd β} {ok : α → Prop} {ok2 : β → Prop} (h : OpensW P f.type d ok) (hc : P.cellsOf f.type = d.sz) (h2 : OpensF P fs (f.offset + d.sz) d2 ok2) :
    OpensF P (f :: fs) f.offset (Kd.pair d d2) (fun x => ok x.1 ∧ ok2 x.2) := by
  intro H enc W sp held fuel cs ys hy hw
  simp only [List.mapM_cons] at hy
  obtain ⟨y, hy1, hy⟩ := Option.bind_eq_some_iff.1 hy
  obtain ⟨ys2, hy2, hy⟩ := Option.bind_eq_some_iff.1 hy
  simp at hy
  subst hy
  rw [hc] at hy1
  obtain ⟨x1, k1, o1⟩ := h H enc W sp held fuel _ y hy1 fun n hn => hw n (by simp [DataW.weightsEach, hn])
  obtain ⟨x2, k2, o2⟩ := h2 H enc W sp held fuel cs ys2 hy2 fun n hn => hw n (by
    simp only [List.map_cons, DataW.weightsEach]
    exact List.mem_append_right _ hn)
  refine ⟨(x1, x2), ⟨_, _, ?_, k1, k2⟩, o1, o2⟩
  show (cs.drop f.offset).take (d.sz + d2.sz) = _
  rw [List.take_add, List.drop_drop]
theorem opensW_struct {t : TypeId} {fs : Array Field} {d : Kd α} {ok : α → Prop} (hu : P.underlying t = some (.struct fs)) (h : OpensF P fs.toList 0 d ok) (hc : P.cellsOf t = d.sz) : OpensW P t d ok := by
  intro H enc W sp held fuel cs y hy hw
  cases fuel with
  | zero => simp [DataW.trod] at hy
  | succ n =>
    have key : cs.length = P.cellsOf t ∧ ∃ ys, fs.toList.mapM (fun f => DataW.trod enc P W 0 sp held n f.type ((cs.drop f.offset).take (P.cellsOf f.type))) = some ys ∧ y.1 = .agg (ys.map (·.1)) := by
      simp only [DataW.trod, hu] at hy
      split at hy
      · rename_i hl
        obtain ⟨ys, h1, h2⟩ := Option.map_eq_some_iff.1 hy
        exact ⟨hl, ys, h1, by rw [← h2]⟩
      · cases hy
    obtain ⟨hl, ys, hy1, hy2⟩ := key
    obtain ⟨x, hx, ho⟩ := h H enc W sp held n cs ys hy1 fun q hq => hw q (by
      rw [hy2]
      simp only [DataW.weights, hu]
      exact hq)
    refine ⟨x, ?_, ho⟩
    rw [List.drop_zero, ← hc, ← hl, List.take_length] at hx
    exact hx
theorem opensW_iso {t : TypeId} {d : Kd α} {ok : α → Prop} (f : β → α) (g : α → β) (hfg : ∀ x, f (g x) = x) (h : OpensW P t d ok) : OpensW P t (Kd.iso d f) (fun x => ok (f x)) := by
  intro H enc W sp held fuel cs y hy hw
  obtain ⟨x, hx, ho⟩ := h H enc W sp held fuel cs y hy hw
  exact ⟨g x, by show d.K W (f (g x)) cs; rw [hfg]; exact hx, by show ok (f (g x)); rw [hfg]; exact ho⟩
theorem okWide_struct {t : TypeId} {fs : Array Field} {r : Reach} {b0 : Nat} {v : Value} {W : World} (hu : P.underlying t = some (.struct fs)) (h : Value.okWide P W r b0 t v) : ∃ cs, v = .agg cs ∧ cs.size = P.cellsOf t := by
  simp only [Value.okWide, hu] at h
  obtain ⟨cs, h1, h2, _⟩ := h
  exact ⟨cs, h1, h2⟩
end
end Go.Proofs.YtehbebpemnanoaaO
