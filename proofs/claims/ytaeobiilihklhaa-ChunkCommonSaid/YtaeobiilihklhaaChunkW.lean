/- The method Write of the package chunk: what goes through a cutter. -/
import Derived.Test.YtaeobiilihklhaaChunkC
namespace Go.Proofs.Ytaeobiilihklhaa.F
open Go Go.RowKit Go.Proofs.YtaeobiilihklhaaW.PrintWords Go.Proofs.YtaeobiilihklhaaW.PrintLast Go.Proofs.YtaeobiilihklhaaW.PrintMore Go.Proofs.YtaeobiilihklhaaM Go.Proofs.YtaeobiilihklhaaR
attribute [local go_sem] max2_int min2_int max_two min_two
set_option linter.unusedSimpArgs false
set_option linter.unusedVariables false
set_option maxRecDepth 100000
theorem row_cell {w : World} {k : IntKind} {A : Option Addr} {l : List Int} (h : Kd.C (Kd.int k) w A l.length l) (i : Nat) (hi : i < l.length) : ∃ ad, A = some ad ∧ w.cell? (ad.add i) = some (.int k (l.getD i 0)) := by
  obtain ⟨ad, hA, hc⟩ := (reads_of h).at_ (i : Int) (by omega) (by omega)
  exact ⟨ad, hA, by simpa [rd] using hc⟩
theorem WinB.own_far {g gb size : Nat} {s : List Int} {w : World} (h : WinB g gb size s w) {base e sz n : Nat} {v : Value} {xs : List Value} (ho : w.ownsRow base e sz v n xs) (h1 : e ≠ 67) (h2 : e ≠ 5) : ∀ k, v.ownBlock = some k → ¬ WS g gb k := by
  obtain ⟨a, b, h⟩ := h
  rintro k hk (rfl | rfl)
  · exact own_ne ho h.cells h1 hk.symm
  · exact own_ne ho h.row h2 hk.symm
theorem Cut.own_far {gc g gb : Nat} {lo hi bits : Int} {s b : List Int} {vb : Value} {B : Nat} {w : World} (h : Cut gc g gb lo hi bits s b vb B w) {base e sz n : Nat} {v : Value} {xs : List Value} (ho : w.ownsRow base e sz v n xs) (h0 : e ≠ 56) (h1 : e ≠ 67) (h2 : e ≠ 5) : ∀ k, v.ownBlock = some k → ¬ CS gc g gb vb k := by
  rintro k hk (rfl | rfl | rfl | hb)
  · exact own_ne ho h.cells h0 hk.symm
  · exact h.win.own_far ho h1 h2 _ hk (.inl rfl)
  · exact h.win.own_far ho h1 h2 _ hk (.inr rfl)
  · obtain ⟨cells, hcl⟩ := own_typed h.row k hb
    exact own_ne ho hcl h2 hk.symm
/-- texts out of lists of bytes -/
def strs (ls : List (List Int)) : List ByteArray := ls.map strOfNums
/-- what Write returns and leaves -/
def WriteCut (gc g gb : Nat) (lo hi bits : Int) (r : List (List Int) × List Int × List Int) (vb : Value) (B : Nat) (w : World) : World → Value → Prop := fun w' v => w'.ownsRow w.heap.size 9 1 v r.1.length (encs Value.string (strs r.1)) ∧ CutB gc g gb lo hi bits r.2.1 r.2.2 B w w' vb
theorem strs_len (ls : List (List Int)) : (strs ls).length = ls.length := by simp [strs]
set_option maxHeartbeats 4000000 in
theorem write_c {gc g gb : Nat} {lo hi bits : Int} {s b : List Int} {vb : Value} {B : Nat} (w : World) (A : Option Addr) (c : Nat) (l : List Int) (h : Cut gc g gb lo hi bits s b vb B w) (hm : mayM lo hi bits) (hbl : (b.length : Int) < hi) (hBw : B ≤ w.heap.size)
    (hr : ∀ w', Upd (CS gc g gb vb) w w' → Kd.C (Kd.int .u8) w' A l.length l) (hc : l.length ≤ c) (hl : l.length ≤ 100000) (hb : ∀ x ∈ l, 0 ≤ x ∧ x < 256) :
    Calls Try.prog 17 #[.pointer (some ⟨gc, 0, none⟩), .slice A l.length c] w (Does (CS gc g gb vb) w (WriteCut gc g gb lo hi bits (cutRun lo hi bits s b l []) vb B w)) := by
  obtain ⟨res, hres⟩ : ∃ res, res = cutRun lo hi bits s b l [] := ⟨_, rfl⟩
  rw [← hres]
  have HRes := Lib.hid hres
  have HR := Lib.hid hr
  have HB := Lib.hid hb
  have HM := Lib.hid hm
  clear hres hr hb
  go_enter Try.func17, Try.ntmps17
  go_wp2_with fail
  go_loopw [5, 15] (fun v iv wr => ∃ (pre suf s' b' : List Int) (acc : List (List Int)) (vb' v5 : Value), v = v5 ∧ l = pre ++ suf ∧ iv = .int .i64 (pre.length : Int) ∧ res = cutRun lo hi bits s' b' suf acc ∧ (b'.length : Int) < hi ∧ acc.length ≤ pre.length ∧ wr.ownsRow w.heap.size 9 1 v5 acc.length (encs Value.string (strs acc)) ∧ Cut gc g gb lo hi bits s' b' vb' B wr ∧ (∀ k, vb'.ownBlock = some k → vb.ownBlock = some k ∨ w.heap.size ≤ k) ∧ Upd (CS gc g gb vb) w wr) (fun _ iv _ => l.length - (intOf iv).toNat)
  case atStart => exact ⟨[], l, s, b, [], vb, _, rfl, rfl, rfl, HRes.out, hbl, by simp, own_nil _ _ _ _, h, fun k hk => .inl hk, Upd.refl _ _⟩
  case round =>
    obtain ⟨pre, suf, s', b', acc, vb', v5, rfl, hp, rfl, hre, hbl', hacc, hown, hcut, hfresh, hu⟩ := hrel
    rcases suf with _ | ⟨x, suf⟩
    · have hlen : l.length = pre.length := by rw [hp]; simp
      have d2 : decide (pre.length < l.length) = false := decide_eq_false (by omega)
      clear hp hlen
      go_wp2_with fail
      go_ret
      simp only [cutRun] at hre
      subst hre
      exact ⟨_, rfl, ⟨hown, vb', hcut, hfresh⟩, hu⟩
    · have hlen : l.length = pre.length + suf.length + 1 := by rw [hp]; simp; omega
      have hlt : pre.length < l.length := by omega
      have d2 : decide (pre.length < l.length) = true := decide_eq_true hlt
      have hx : l.getD pre.length 0 = x := by rw [hp]; simp [List.getD]
      have hxb := HB.out x (by rw [hp]; simp)
      obtain ⟨ad, hA, -⟩ := row_cell (HR.out wr hu) pre.length hlt
      have hcell : ∀ w', Upd (CS gc g gb vb) w w' → w'.cell? (ad.add pre.length) = some (.int .u8 x) := fun w' hu' => by
        obtain ⟨ad', hA', hc⟩ := row_cell (HR.out w' hu') pre.length hlt
        rw [hA] at hA'
        obtain rfl := Option.some.inj hA'
        rw [hc, hx]
      subst hA
      have HC := Lib.hid hcell
      have HP := Lib.hid hp
      have HRe := Lib.hid hre
      have C3 := Lib.hid (hcut.cells.at_ 3)
      clear hcell hp hre hlen hx
      go_wp2_with fail
      apply region_grew [Is _, Is _, Is _, Is _, Is _, Is _, Is _, Is _] [([(0, none)], none), ([(18, some 0)], none), ([(19, some 1)], none), ([(20, some 2)], none), ([(1, none)], none), ([(6, none)], none), ([(22, some 4), (23, some 5)], none), ([(24, some 6)], none)] [(18, 0), (19, 1), (20, 2), (21, 3), (22, 4), (23, 5), (24, 6), (25, 7)] rfl (by kernel_rfl) (by kernel_rfl) (show Stable Grew _ from ⟨Is.stable _, Is.stable _, Is.stable _, Is.stable _, Is.stable _, Is.stable _, Is.stable _, Is.stable _, trivial⟩)
      · show OpsHold _ _ _ _ _ _ _ _ _
        refine ⟨fun a_ wx hR hD K hK => ?_, ?_⟩
        · have hG : Grew wr wx := (Grew.drew _).trans hR
          simp [Deps, Dep, at_, Is] at hD
          go_simp
          exact hK _ _ (Grew.refl _) rfl
        refine ⟨fun a_ wx hR hD K hK => ?_, ?_⟩
        · have hG : Grew wr wx := (Grew.drew _).trans hR
          simp [Deps, Dep, at_, Is] at hD
          go_simp
          exact hK _ _ (Grew.refl _) rfl
        refine ⟨fun a_ wx hR hD K hK => ?_, ?_⟩
        · have hG : Grew wr wx := (Grew.drew _).trans hR
          simp [Deps, Dep, at_, Is] at hD
          go_simp
          exact hK _ _ (Grew.refl _) rfl
        refine ⟨fun a_ wx hR hD K hK => ?_, ?_⟩
        · have hG : Grew wr wx := (Grew.drew _).trans hR
          simp [Deps, Dep, at_, Is] at hD
          have e_ := pw_cell_below hG C3.out
          go_simp
          exact hK _ _ (Grew.refl _) rfl
        refine ⟨fun a_ wx hR hD K hK => ?_, ?_⟩
        · have hG : Grew wr wx := (Grew.drew _).trans hR
          simp [Deps, Dep, at_, Is] at hD
          go_simp
          exact hK _ _ (Grew.refl _) rfl
        refine ⟨fun a_ wx hR hD K hK => ?_, ?_⟩
        · have hG : Grew wr wx := (Grew.drew _).trans hR
          simp [Deps, Dep, at_, Is] at hD
          go_simp
          exact hK _ _ (Grew.refl _) rfl
        refine ⟨fun a_ wx hR hD K hK => ?_, ?_⟩
        · have hG : Grew wr wx := (Grew.drew _).trans hR
          simp [Deps, Dep, at_, Is] at hD
          obtain ⟨hd0, hd1⟩ := hD
          go_simp
          exact hK _ _ (Grew.refl _) rfl
        refine ⟨fun a_ wx hR hD K hK => ?_, ?_⟩
        · have hG : Grew wr wx := (Grew.drew _).trans hR
          simp [Deps, Dep, at_, Is] at hD
          have e_ := HC.out wx (hu.trans (Upd.of_grew hG))
          go_simp
          exact hK _ _ (Grew.refl _) rfl
        trivial
      · show EndHold _ _ _ _ _ _ _
        refine end_all (xs := [_, _, _, _, _, _, _, _]) ⟨rfl, rfl, rfl, rfl, rfl, rfl, rfl, rfl, trivial⟩ ?_
        rintro w2 hR1 -
        refine ⟨?_⟩
        have hG_w2 : Grew wr w2 := (Grew.drew _).trans hR1
        clear hR1
        simp only [Act.put, List.setIfInBounds_toArray, List.set_cons_succ, List.set_cons_zero, dropN, putEach]
        have hcut2 := hcut.grew hG_w2
        have hu2 := hu.trans (Upd.of_grew hG_w2)
        have hown2 := pw_own_below hown hG_w2
        go_wp2_with fail
        refine (put_c g gb 16 s' x hxb _ hcut2.win).mono ?_
        rintro e w3 ⟨_, rfl, ⟨rfl, hW3⟩, hu3⟩
        have hn3 : ¬ WS g gb gc := fun hk => hk.elim hcut.n1 hcut.n2
        have hcl3 := hcut2.cells.upd hu3 hn3
        have hrow3 := hu3.own hcut2.row (fun k hk hS => hS.elim (hcut.far k hk).2.1 (hcut.far k hk).2.2)
        have hown3 := hu3.own hown2 (hcut2.win.own_far hown2 (by decide) (by decide))
        have hu3' : Upd (CS gc g gb vb) w w3 := hu2.trans (hu3.mono fun k _ hk => hk.elim (fun h => .inr (.inl h)) (fun h => .inr (.inr (.inl h))))
        obtain ⟨s3, hs3⟩ : ∃ s3, s3 = lastL 16 (s' ++ [x]) := ⟨_, rfl⟩
        rw [← hs3] at hW3
        obtain ⟨Ab, cb, rfl⟩ := own_slice hcut.row
        have hlb := own_lt hrow3
        have hbb := own_base hrow3
        have HS3 := Lib.hid hs3
        have C4 := Lib.hid (hcl3.at_ 4)
        have HO3 := Lib.hid hrow3
        have HCl := Lib.hid hcl3
        have hB3 : B ≤ w3.heap.size := Nat.le_trans hBw hu3'.size
        have hm3 : hi ≤ 1024 := hm.2.2.1
        clear hs3 hrow3 hcl3 hcut2 hu2 hown2 hu3
        go_wp2_with fail
        apply region_big (fun w w' => w.grownBy w' (Value.slice Ab b'.length cb).ownBlock) [.float, .plain, .plain, .plain, .plain, .plain, .plain, .plain, .plain, .plain, .big] [Is _, Is _, Is _, Is _, Is _, Is _, Is _, Is _, Is _, One 5 (.int .u8 x) (.slice Ab b'.length cb), AppV B 5 (nums .u8 (b' ++ [x])) (b'.length + 1) (.slice Ab b'.length cb) w3.heap.size] [([(0, none)], none), ([(0, none)], none), ([(28, some 1)], none), ([(29, some 2)], none), ([(30, some 3)], none), ([(1, none)], none), ([(6, none)], none), ([(32, some 5), (33, some 6)], none), ([(34, some 7)], none), ([(35, some 8)], none), ([(31, some 4), (36, some 9)], none)] [(36, 9), (37, 10), (27, 0), (28, 1), (29, 2), (30, 3), (31, 4), (32, 5), (33, 6), (34, 7), (35, 8)] rfl (by kernel_rfl) (by kernel_rfl) (by kernel_rfl) (by kernel_rfl) rfl (show StableB Grew _ _ _ from ⟨(fun _ => Is.stableB _), (fun _ => Is.stableB _), (fun _ => Is.stableB _), (fun _ => Is.stableB _), (fun _ => Is.stableB _), (fun _ => Is.stableB _), (fun _ => Is.stableB _), (fun _ => Is.stableB _), (fun _ => Is.stableB _), (fun _ => One.stableB _ _ _), (fun h_ => absurd rfl h_), trivial⟩)
        · show PhHold _ _ _ _ _ _ _ _ _ _ _
          refine ⟨fun a_ wx hD K hK => ?_, ?_⟩
          · have hF_ := True.intro
            simp [Deps, Dep, at_, Is] at hD
            go_simp
            exact hK _ _ rfl rfl
          refine ⟨fun a_ wx hR hD K hK => ?_, ?_⟩
          · have hG : Grew w3 wx := (Grew.drew _).trans hR
            simp [Deps, Dep, at_, Is] at hD
            go_simp
            exact hK _ _ (Grew.refl _) rfl
          refine ⟨fun a_ wx hR hD K hK => ?_, ?_⟩
          · have hG : Grew w3 wx := (Grew.drew _).trans hR
            simp [Deps, Dep, at_, Is] at hD
            go_simp
            exact hK _ _ (Grew.refl _) rfl
          refine ⟨fun a_ wx hR hD K hK => ?_, ?_⟩
          · have hG : Grew w3 wx := (Grew.drew _).trans hR
            simp [Deps, Dep, at_, Is] at hD
            go_simp
            exact hK _ _ (Grew.refl _) rfl
          refine ⟨fun a_ wx hR hD K hK => ?_, ?_⟩
          · have hG : Grew w3 wx := (Grew.drew _).trans hR
            simp [Deps, Dep, at_, Is] at hD
            have e_ := pw_cell_below hG C4.out
            go_simp
            exact hK _ _ (Grew.refl _) rfl
          refine ⟨fun a_ wx hR hD K hK => ?_, ?_⟩
          · have hG : Grew w3 wx := (Grew.drew _).trans hR
            simp [Deps, Dep, at_, Is] at hD
            go_simp
            exact hK _ _ (Grew.refl _) rfl
          refine ⟨fun a_ wx hR hD K hK => ?_, ?_⟩
          · have hG : Grew w3 wx := (Grew.drew _).trans hR
            simp [Deps, Dep, at_, Is] at hD
            go_simp
            exact hK _ _ (Grew.refl _) rfl
          refine ⟨fun a_ wx hR hD K hK => ?_, ?_⟩
          · have hG : Grew w3 wx := (Grew.drew _).trans hR
            simp [Deps, Dep, at_, Is] at hD
            obtain ⟨hd0, hd1⟩ := hD
            go_simp
            exact hK _ _ (Grew.refl _) rfl
          refine ⟨fun a_ wx hR hD K hK => ?_, ?_⟩
          · have hG : Grew w3 wx := (Grew.drew _).trans hR
            simp [Deps, Dep, at_, Is] at hD
            have e_ := HC.out wx (hu3'.trans (Upd.of_grew hG))
            go_simp
            exact hK _ _ (Grew.refl _) rfl
          refine ⟨fun a_ wx hR hD K hK => ?_, ?_⟩
          · have hG : Grew w3 wx := (Grew.drew _).trans hR
            simp [Deps, Dep, at_, Is] at hD
            go_simp
            exact hK _ _ (Grew.alloc _ _) (One.new (fun k hk => Nat.lt_of_lt_of_le (hlb k hk) hG.size))
          refine ⟨⟨rfl, fun a_ wx hR hD K hK => ?_⟩, ?_⟩
          · have hG : Grew w3 wx := (Grew.drew _).trans hR
            simp [Deps, Dep, at_, Is] at hD
            obtain ⟨hd0, hd1⟩ := hD
            obtain ⟨g1, h1, h2, h3⟩ := hd1
            obtain ⟨v1, wy, hrun, hown1, hgr1, hat1⟩ := app_num (P := Try.prog) (k := .u8) wx B 42 5 42 1 Try.underlying42 info5 (by decide) _ b' [x] _ 1 1 (pw_own_below HO3.out hG) (h2.reads (by simp)) (Nat.le_trans hB3 hG.size) (by simp; omega)
            exact wp_app (.tmp 31) (.tmp 36) 42 rfl (eval_tmp hd0) (eval_tmp h1) hrun (hK _ _ hgr1 ⟨by rw [show b'.length + 1 = (b' ++ [x]).length from by simp]; exact hown1, hat1.imp id (fun h => ⟨_, h, hG.size⟩)⟩)
          trivial
        · show EndHold _ _ _ _ _ _ _
          intro v36
          intro v37
          refine end_all (xs := [_, _, _, _, _, _, _, _, _]) ⟨rfl, rfl, rfl, rfl, rfl, rfl, rfl, rfl, rfl, trivial⟩ ?_
          rintro w4 hR1 ⟨⟨-, hOne⟩, hApp⟩
          refine ⟨?_⟩
          obtain ⟨wm_w4, hRm, hP_w4⟩ := hR1
          have hG_w4 : Grew w3 wm_w4 := (Grew.drew _).trans hRm
          clear hRm
          simp only [Act.put, List.setIfInBounds_toArray, List.set_cons_succ, List.set_cons_zero, dropN, putEach]
          obtain ⟨hro, hat⟩ := hApp
          obtain ⟨gv, cap, rfl, hgv1, hgv2, hgv3⟩ := own_head hro (by omega)
          have hu4 : Upd (fun k => (Value.slice Ab b'.length cb).ownBlock = some k) w3 w4 := (Upd.of_grew hG_w4).grown hP_w4 (fun k hk => .inl hk)
          have hfar := hcut.far
          have hl3 := hW3.lt
          have hlc := HCl.out.lt
          have hgf : gv ≠ gc ∧ gv ≠ g ∧ gv ≠ gb := by
            rcases hat with h | ⟨k, h, hk⟩
            · exact hfar gv h.symm
            · have : gv = k := by simpa [Value.ownBlock] using h
              omega
          have hcl4 := HCl.out.upd hu4 (fun hk => (hfar gc hk).1 rfl)
          have hW4 := hW3.upd hu4 (fun hk => (hfar g hk).2.1 rfl) (fun hk => (hfar gb hk).2.2 rfl)
          have hown4 := hu4.own hown3 (fun k hk hk2 => by
            rcases own_type_ne hown3 HO3.out (by decide) with h | h
            · rw [h] at hk; cases hk
            · exact h (hk.trans hk2.symm))
          have hu4' : Upd (CS gc g gb vb) w w4 := hu3'.then_ hu4 (fun k hk hk2 => (hfresh k hk2).elim (fun h => .inr (.inr (.inr h))) (fun h => by omega))
          have hfr4 : ∀ k, (Value.slice (some ⟨gv, 0, none⟩) (b'.length + 1) cap).ownBlock = some k → vb.ownBlock = some k ∨ w.heap.size ≤ k := fun k hk => by
            rcases hat with h | ⟨k', h, hk'⟩
            · exact hfresh k (h.symm.trans hk)
            · rw [h] at hk
              obtain rfl := Option.some.inj hk
              exact .inr (Nat.le_trans hu3'.size hk')
          obtain ⟨W5, hW5⟩ : ∃ W5, W5 = w4.setCell ⟨gc, 4, none⟩ (.slice (some ⟨gv, 0, none⟩) (b'.length + 1) cap) := ⟨_, rfl⟩
          have hcl5 := hcl4.set 4 (.slice (some ⟨gv, 0, none⟩) (b'.length + 1) cap)
          have hsu : Upd (fun k => k = gc) w4 (w4.setCell ⟨gc, 4, none⟩ (.slice (some ⟨gv, 0, none⟩) (b'.length + 1) cap)) := Upd.set (S := fun k => k = gc) (p := ⟨gc, 4, none⟩) (Upd.refl _ _) (.inl rfl) _
          have hW5' := hW4.upd hsu (fun h => hcut.n1 h.symm) (fun h => hcut.n2 h.symm)
          have hrow5 := hsu.own hro (fun k hk h => by
            have : gv = k := by simpa [Value.ownBlock] using hk
            omega)
          have hown5 := hsu.own hown4 (fun k hk h => by subst h; exact own_ne hown4 hcl4 (by decide) hk.symm)
          have hu5 : Upd (CS gc g gb vb) w (w4.setCell ⟨gc, 4, none⟩ (.slice (some ⟨gv, 0, none⟩) (b'.length + 1) cap)) := hu4'.trans (hsu.mono fun k _ h => .inl h)
          have q4 := hcl4.at_ 4
          have f4 := hcl4.fz 4
          simp only [List.set_cons_succ, List.set_cons_zero, List.getElem?_cons_succ, List.getElem?_cons_zero] at q4 hcl5
          have hcut5 : Cut gc g gb lo hi bits s3 (b' ++ [x]) (.slice (some ⟨gv, 0, none⟩) (b'.length + 1) cap) B (w4.setCell ⟨gc, 4, none⟩ (.slice (some ⟨gv, 0, none⟩) (b'.length + 1) cap)) :=
            ⟨hcut.n1, hcut.n2, hcut.n3, hcut.b1, hcut.b2, hcut.b3, hcl5, hW5', by rw [show (b' ++ [x]).length = b'.length + 1 from by simp]; exact hrow5, fun k hk => by
              have : gv = k := by simpa [Value.ownBlock] using hk
              omega, fun y hy => (List.mem_append.1 hy).elim (hcut.bytes y) (fun h => by simp at h; subst h; exact hxb)⟩
          have z0 := hcl5.at_ 0
          have z4 := hcl5.at_ 4
          simp only [List.getElem?_cons_succ, List.getElem?_cons_zero] at z0 z4
          rw [← hW5] at hcut5 hown5 hu5 hcl5
          have HW5 := Lib.hid hW5
          have D1 := Lib.hid (hcl5.at_ 1)
          have D2 := Lib.hid (hcl5.at_ 2)
          have D3 := Lib.hid (hcl5.at_ 3)
          have F4 := Lib.hid (hcl5.fz 4)
          have D4 := Lib.hid (hcl5.at_ 4)
          have Hown5 := Lib.hid hown5
          have hpl : (b'.length : Int) + 1 ≤ 1024 := by omega
          clear hW5 hcl5 hcl4 hW3 hW4 hown3 hown4 hu4 hu4' hsu hW5' hrow5 hown5 hro hat hu3' hlb hbb hP_w4 hG_w4
          by_cases hlo : (b'.length : Int) + 1 < lo
          · have hcb : cutsB lo hi bits (b'.length + 1) s3 = false := by
              simp only [cutsB, Bool.and_eq_false_iff]
              exact .inl (decide_eq_false (by omega))
            go_wp2_with fail
            rw [← HW5.out]
            go_roundw
            case rel =>
              refine ⟨pre ++ [x], suf, s3, b' ++ [x], acc, _, _, rfl, by rw [HP.out]; simp, by simp, ?_, ?_, by simp; omega, Hown5.out, hcut5, hfr4, hu5⟩
              · rw [HRe.out]; simp only [cutRun]; rw [← HS3.out, if_neg (by rw [hcb]; simp)]
              · simp only [List.length_append, List.length_singleton]
                have := hm.2.1
                omega
            case measure => simp [intOf]; omega
          · have z3 := D3.out
            rw [HW5.out] at z3
            simp only [List.getElem?_cons_succ, List.getElem?_cons_zero] at z3
            go_wp2_with fail
            rw [← HW5.out]
            refine (wsum_c g gb 16 s3 _ hcut5.win).mono ?_
            rintro e w6 ⟨_, rfl, rfl, hg6⟩
            have hcut6 := hcut5.grew hg6
            have hown6 := pw_own_below Hown5.out hg6
            have hu6 := hu5.trans (Upd.of_grew hg6)
            have e0 := hcut6.cells.at_ 0
            have e1 := hcut6.cells.at_ 1
            have e2 := hcut6.cells.at_ 2
            simp only [List.getElem?_cons_succ, List.getElem?_cons_zero] at e0 e1 e2
            clear hcut5 hu5 Hown5 D1 D2 D3 D4 F4 z0 z3 z4 q4 f4
            by_cases hhi : (b'.length : Int) + 1 = hi
            · have d5 : ((b'.length : Int) + 1 == hi) = true := by simpa using hhi
              have hhi' := Lib.hid hhi
              clear hhi
              have hcb : cutsB lo hi bits (b'.length + 1) s3 = true := by
                simp only [cutsB, Bool.and_eq_true, Bool.or_eq_true]
                exact ⟨decide_eq_true (by omega), .inl (decide_eq_true (by have := hhi'.out; omega))⟩
              obtain ⟨Av, cv, hv, _, hcv1, hCv⟩ := own_C (hcut6.row)
              obtain ⟨rfl, -, rfl⟩ := Value.slice.inj hv
              clear hv
              have hcv := Kd.C_string (P := Try.prog) (c := cap) Try.underlying42 Try.underlying5 Try.underlying9 hCv
              rw [show (b' ++ [x]).length = b'.length + 1 from by simp] at hcv
              have e4 := hcut6.cells.at_ 4
              simp only [List.getElem?_cons_succ, List.getElem?_cons_zero] at e4
              clear hCv
              obtain ⟨vn, wn, hrn, hown8, hgr8, hat8⟩ := app_row (P := Try.prog) Value.string ByteArray.empty (fun _ => rfl) (w6.alloc (.cells #[.string (strOfNums (b' ++ [x]))] 9)) w.heap.size 25 9 25 (.string ⟨#[]⟩) 16 Try.underlying25 info9 rfl (by decide) _ (strs acc) [strOfNums (b' ++ [x])] _ 1 1 (by rw [strs_len]; exact hown6.alloc _) ((Blk.new w6 9 (encs Value.string [strOfNums (b' ++ [x])])).reads_of (by simp)) (by have := hu6.size; simp; omega) (by rw [strs_len]; omega)
              have hU8 := Upd.of_alloc_grown hgr8
              have hfar6 := hcut6.own_far hown6 (by decide) (by decide) (by decide)
              have hcut8 := hcut6.upd hU8 (fun k hk h => hfar6 k h hk)
              have hu8 : Upd (CS gc g gb vb) w wn := hu6.then_ hU8 (fun k hk h => by have := own_base hown6 k h; omega)
              have g0 := hcut8.cells.at_ 4
              have g1 := hcut8.cells.fz 4
              simp only [List.getElem?_cons_succ, List.getElem?_cons_zero] at g0
              have hw0 := hcut8.cells.set 4 (.slice (some ⟨gv, 0, none⟩) 0 cap)
              have hsu9 : Upd (fun k => k = gc) wn (wn.setCell ⟨gc, 4, none⟩ (.slice (some ⟨gv, 0, none⟩) 0 cap)) := Upd.set (S := fun k => k = gc) (p := ⟨gc, 4, none⟩) (Upd.refl _ _) (.inl rfl) _
              have hW9 := hcut8.win.upd hsu9 (fun h => hcut.n1 h.symm) (fun h => hcut.n2 h.symm)
              have hr8 := hcut8.row
              rw [show (b' ++ [x]).length = b'.length + 1 from by simp] at hr8
              have hro9 := own_take (m := 0) (hsu9.own hr8 (fun k hk h => (hcut8.far k hk).1 h)) (by omega)
              have hown9 := hsu9.own hown8 (fun k hk h => by subst h; exact own_ne hown8 hcut8.cells (by decide) hk.symm)
              simp only [List.set_cons_succ, List.set_cons_zero] at hw0
              have hcut9 : Cut gc g gb lo hi bits s3 [] (.slice (some ⟨gv, 0, none⟩) 0 cap) B (wn.setCell ⟨gc, 4, none⟩ (.slice (some ⟨gv, 0, none⟩) 0 cap)) :=
                ⟨hcut.n1, hcut.n2, hcut.n3, hcut.b1, hcut.b2, hcut.b3, hw0, hW9, by simpa [nums] using hro9, fun k hk => hcut8.far k (by simpa [Value.ownBlock] using hk), by simp⟩
              have hu9 : Upd (CS gc g gb vb) w (wn.setCell ⟨gc, 4, none⟩ (.slice (some ⟨gv, 0, none⟩) 0 cap)) := hu8.trans (hsu9.mono fun k _ h => .inl h)
              have hfr9 : ∀ k, (Value.slice (some ⟨gv, 0, none⟩) 0 cap).ownBlock = some k → vb.ownBlock = some k ∨ w.heap.size ≤ k := fun k hk => hfr4 k (by simpa [Value.ownBlock] using hk)
              have Hown9 := Lib.hid hown9
              clear hown9 hown8 hgr8 hU8 hfar6 hcut8 hw0 hsu9 hW9 hro9 hr8 hcut6 hown6 hu6 hu8
              go_wp2_with (at_builtin; refine wpList_app (by rfl) (.tmp 76) (.tmp 82) 25 (by rfl) (by rfl) (by rfl) hrn ?_)
              go_roundw
              case rel =>
                refine ⟨pre ++ [x], suf, s3, [], acc ++ [b' ++ [x]], _, _, rfl, by rw [HP.out]; simp, by simp, ?_, ?_, by simp; omega, ?_, hcut9, hfr9, hu9⟩
                · rw [HRe.out]; simp only [cutRun]; rw [← HS3.out, if_pos hcb]
                · have := hm.1; have := hm.2.1; simp; omega
                · have := Hown9.out
                  rw [List.length_append, strs_len] at this
                  simpa [strs] using this
              case measure => simp [intOf]; omega
            · have d5 : ((b'.length : Int) + 1 == hi) = false := by simpa using hhi
              have hhi2 : (b'.length : Int) + 1 < hi := by omega
              clear hhi
              have hwr := weak_range s3
              go_wp2_with fail
              refine (marked_c (weak s3) bits _ hwr.1 hwr.2).mono ?_
              rintro e w7 ⟨_, rfl, rfl, hg7⟩
              replace hcut6 := hcut6.grew hg7
              replace hown6 := pw_own_below hown6 hg7
              replace hu6 := hu6.trans (Upd.of_grew hg7)
              clear e0 e1 e2
              cases hmk : markB (weak s3) bits
              · have hcb : cutsB lo hi bits (b'.length + 1) s3 = false := by
                  simp only [cutsB, Bool.and_eq_false_iff, Bool.or_eq_false_iff]
                  exact .inr ⟨decide_eq_false (by omega), hmk⟩
                go_wp2_with fail
                go_roundw
                case rel =>
                  refine ⟨pre ++ [x], suf, s3, b' ++ [x], acc, _, _, rfl, by rw [HP.out]; simp, by simp, ?_, ?_, by simp; omega, hown6, hcut6, hfr4, hu6⟩
                  · rw [HRe.out]; simp only [cutRun]; rw [← HS3.out, if_neg (by rw [hcb]; simp)]
                  · simp only [List.length_append, List.length_singleton]; omega
                case measure => simp [intOf]; omega
              · obtain ⟨w6, rfl⟩ : ∃ wz : World, wz = w7 := ⟨_, rfl⟩
                have hcb : cutsB lo hi bits (b'.length + 1) s3 = true := by
                  simp only [cutsB, Bool.and_eq_true, Bool.or_eq_true]
                  exact ⟨decide_eq_true (by omega), .inr hmk⟩
                obtain ⟨Av, cv, hv, _, hcv1, hCv⟩ := own_C (hcut6.row)
                obtain ⟨rfl, -, rfl⟩ := Value.slice.inj hv
                clear hv
                have hcv := Kd.C_string (P := Try.prog) (c := cap) Try.underlying42 Try.underlying5 Try.underlying9 hCv
                rw [show (b' ++ [x]).length = b'.length + 1 from by simp] at hcv
                have e4 := hcut6.cells.at_ 4
                simp only [List.getElem?_cons_succ, List.getElem?_cons_zero] at e4
                clear hCv
                obtain ⟨vn, wn, hrn, hown8, hgr8, hat8⟩ := app_row (P := Try.prog) Value.string ByteArray.empty (fun _ => rfl) (w6.alloc (.cells #[.string (strOfNums (b' ++ [x]))] 9)) w.heap.size 25 9 25 (.string ⟨#[]⟩) 16 Try.underlying25 info9 rfl (by decide) _ (strs acc) [strOfNums (b' ++ [x])] _ 1 1 (by rw [strs_len]; exact hown6.alloc _) ((Blk.new w6 9 (encs Value.string [strOfNums (b' ++ [x])])).reads_of (by simp)) (by have := hu6.size; simp; omega) (by rw [strs_len]; omega)
                have hU8 := Upd.of_alloc_grown hgr8
                have hfar6 := hcut6.own_far hown6 (by decide) (by decide) (by decide)
                have hcut8 := hcut6.upd hU8 (fun k hk h => hfar6 k h hk)
                have hu8 : Upd (CS gc g gb vb) w wn := hu6.then_ hU8 (fun k hk h => by have := own_base hown6 k h; omega)
                have g0 := hcut8.cells.at_ 4
                have g1 := hcut8.cells.fz 4
                simp only [List.getElem?_cons_succ, List.getElem?_cons_zero] at g0
                have hw0 := hcut8.cells.set 4 (.slice (some ⟨gv, 0, none⟩) 0 cap)
                have hsu9 : Upd (fun k => k = gc) wn (wn.setCell ⟨gc, 4, none⟩ (.slice (some ⟨gv, 0, none⟩) 0 cap)) := Upd.set (S := fun k => k = gc) (p := ⟨gc, 4, none⟩) (Upd.refl _ _) (.inl rfl) _
                have hW9 := hcut8.win.upd hsu9 (fun h => hcut.n1 h.symm) (fun h => hcut.n2 h.symm)
                have hr8 := hcut8.row
                rw [show (b' ++ [x]).length = b'.length + 1 from by simp] at hr8
                have hro9 := own_take (m := 0) (hsu9.own hr8 (fun k hk h => (hcut8.far k hk).1 h)) (by omega)
                have hown9 := hsu9.own hown8 (fun k hk h => by subst h; exact own_ne hown8 hcut8.cells (by decide) hk.symm)
                simp only [List.set_cons_succ, List.set_cons_zero] at hw0
                have hcut9 : Cut gc g gb lo hi bits s3 [] (.slice (some ⟨gv, 0, none⟩) 0 cap) B (wn.setCell ⟨gc, 4, none⟩ (.slice (some ⟨gv, 0, none⟩) 0 cap)) :=
                  ⟨hcut.n1, hcut.n2, hcut.n3, hcut.b1, hcut.b2, hcut.b3, hw0, hW9, by simpa [nums] using hro9, fun k hk => hcut8.far k (by simpa [Value.ownBlock] using hk), by simp⟩
                have hu9 : Upd (CS gc g gb vb) w (wn.setCell ⟨gc, 4, none⟩ (.slice (some ⟨gv, 0, none⟩) 0 cap)) := hu8.trans (hsu9.mono fun k _ h => .inl h)
                have hfr9 : ∀ k, (Value.slice (some ⟨gv, 0, none⟩) 0 cap).ownBlock = some k → vb.ownBlock = some k ∨ w.heap.size ≤ k := fun k hk => hfr4 k (by simpa [Value.ownBlock] using hk)
                have Hown9 := Lib.hid hown9
                clear hown9 hown8 hgr8 hU8 hfar6 hcut8 hw0 hsu9 hW9 hro9 hr8 hcut6 hown6 hu6 hu8
                go_wp2_with (at_builtin; refine wpList_app (by rfl) (.tmp 76) (.tmp 82) 25 (by rfl) (by rfl) (by rfl) hrn ?_)
                go_roundw
                case rel =>
                  refine ⟨pre ++ [x], suf, s3, [], acc ++ [b' ++ [x]], _, _, rfl, by rw [HP.out]; simp, by simp, ?_, ?_, by simp; omega, ?_, hcut9, hfr9, hu9⟩
                  · rw [HRe.out]; simp only [cutRun]; rw [← HS3.out, if_pos hcb]
                  · have := hm.1; have := hm.2.1; simp; omega
                  · have := Hown9.out
                    rw [List.length_append, strs_len] at this
                    simpa [strs] using this
                case measure => simp [intOf]; omega
end Go.Proofs.Ytaeobiilihklhaa.F
