/- Texts of this seat laid together: LnkQ, LnkL, F29, F30, LnkN, LnkT, LnkR, LnkU, LnkV, RegQ, LnkW, LnkX. -/
import Derived.Test.YteaefambkagpbaaSA
import Derived.Maps.Keyed
import Derived.MapViews
import Derived.Lib.Builder
import Derived.Lib.UnsafeStr
import Derived.Laws.Externs
import Derived.Carry
import Derived.Lib.EndianBits

-- LnkQ
namespace Go.Proofs.Yteaefambkagpbaa.F
open Go Go.RowKit Go.Proofs.YteaefambkagpbaaW.PrintWords Go.Proofs.YteaefambkagpbaaW.PrintLast Go.Proofs.YteaefambkagpbaaW.PrintMore Go.Proofs.YteaefambkagpbaaM Go.Proofs.YteaefambkagpbaaR
attribute [local go_sem] max2_int min2_int max_two min_two
set_option linter.unusedSimpArgs false
set_option linter.unusedVariables false
set_option maxRecDepth 100000
theorem undef_ne (b : Bool) : ¬ (undef = Value.bool b) := by intro h; cases h
theorem undef_ne' (b : Bool) : ¬ (Value.bool b = undef) := by intro h; cases h
attribute [local simp] undef_ne undef_ne'
def skipX (now : Int) (x : S86) : Bool := x.f3 || (x.f1 && decide (now - x.f2 < 4))
def dueX (now : Int) (x : S86) : S86 := if skipX now x then x else ⟨x.f0, true, now, x.f3⟩
def dueT (now : Int) (l : List S86) (i : Nat) : List S86 := (l.take i).map (dueX now) ++ l.drop i
def dueO (now : Int) (l : List S86) (i : Nat) : List S30 := ((l.take i).filter fun x => !skipX now x).map (·.f0)
theorem dueT_len (now : Int) (l : List S86) (i : Nat) : (dueT now l i).length = l.length := by
  unfold dueT; rw [List.length_append, List.length_map, List.length_take, List.length_drop]; omega
theorem dueT_at (now : Int) (l : List S86) (i : Nat) (x : S86) (h : l[i]? = some x) : (dueT now l i)[i]? = some x := by
  have hi := (List.getElem?_eq_some_iff.1 h).1
  unfold dueT
  rw [List.getElem?_append_right (by rw [List.length_map, List.length_take]; omega), List.length_map, List.length_take, Nat.min_eq_left (by omega), Nat.sub_self, List.getElem?_drop, Nat.add_zero, h]
theorem dueT_succ (now : Int) (l : List S86) (i : Nat) (x : S86) (h : l[i]? = some x) : dueT now l (i + 1) = (dueT now l i).set i (dueX now x) := by
  have hi := (List.getElem?_eq_some_iff.1 h).1
  have hl : ((l.take i).map (dueX now)).length = i := by rw [List.length_map, List.length_take]; omega
  unfold dueT
  rw [List.set_append_right _ _ (by omega), hl, Nat.sub_self, List.take_add_one, h]
  have : l.drop i = x :: l.drop (i + 1) := by
    obtain ⟨hi, he⟩ := List.getElem?_eq_some_iff.1 h
    rw [← he]; exact List.drop_eq_getElem_cons hi
  rw [this]
  simp
theorem dueT_same (now : Int) (l : List S86) (i : Nat) (x : S86) (h : l[i]? = some x) (hs : skipX now x = true) : dueT now l (i + 1) = dueT now l i := by
  rw [dueT_succ now l i x h]
  have e : dueX now x = x := by unfold dueX; rw [hs, if_pos rfl]
  rw [e]
  apply List.ext_getElem?
  intro j
  by_cases hj : i = j
  · subst hj
    rw [List.getElem?_set_self (by rw [dueT_len]; exact (List.getElem?_eq_some_iff.1 h).1), dueT_at now l i x h]
  · rw [List.getElem?_set_ne hj]
theorem dueO_skip (now : Int) (l : List S86) (i : Nat) (x : S86) (h : l[i]? = some x) (hs : skipX now x = true) : dueO now l (i + 1) = dueO now l i := by
  unfold dueO
  rw [List.take_add_one, h]
  simp [hs]
theorem dueO_take (now : Int) (l : List S86) (i : Nat) (x : S86) (h : l[i]? = some x) (hs : skipX now x = false) : dueO now l (i + 1) = dueO now l i ++ [x.f0] := by
  unfold dueO
  rw [List.take_add_one, h]
  simp [hs]
theorem dueO_len (now : Int) (l : List S86) (i : Nat) : (dueO now l i).length ≤ i := by
  unfold dueO
  rw [List.length_map]
  exact Nat.le_trans (List.length_filter_le _ _) (by rw [List.length_take]; omega)
/-- the cells of packets -/
def pks (l : List S30) : List Value := l.flatMap pkc
theorem pks_snoc (l : List S30) (x : S30) : pks (l ++ [x]) = pks l ++ pkc x := by simp [pks]
theorem infoPk : (Try.prog.info? 30).map (fun i => (i.zero, i.size, i.bytes)) = some (some (.agg #[.bool false, .int .i64 0, .bool false, .string ⟨#[]⟩, .int .i64 0]), 5, 48) := by kernel_rfl
theorem SndM.ne_own {B g b n : Nat} {v v2 : Value} {l : List S86} {f nw : Int} {w : World} {xs : List Value} (h : SndM B g v l f nw w) (ho : w.ownsRow b 30 5 v2 n xs) : ∀ k, sndS g v k → v2.ownBlock ≠ some k := by
  intro k hk he
  obtain ⟨cur, hc⟩ := own_cells ho he
  exact h.typed k cur hc hk
theorem sdc_set (l : List S86) (i : Nat) (x : S86) (b : Bool) (t : Int) (h : l[i]? = some x) : ((sdc l).set (i * 8 + 5) (.bool b)).set (i * 8 + 6) (.int .i64 t) = sdc (l.set i ⟨x.f0, b, t, x.f3⟩) := by
  induction l generalizing i with
  | nil => simp at h
  | cons y l ih =>
    have e : sdc (y :: l) = sdc1 y ++ sdc l := by simp [sdc]
    cases i with
    | zero =>
      obtain rfl : y = x := by simpa using h
      simp [sdc, sdc1]
    | succ i =>
      have := ih i (by simpa using h)
      rw [e, show (i + 1) * 8 + 5 = 8 + (i * 8 + 5) from by omega, show (i + 1) * 8 + 6 = 8 + (i * 8 + 6) from by omega]
      have e8 : (sdc1 y).length = 8 := rfl
      rw [List.set_append_right _ _ (by omega), e8, Nat.add_sub_cancel_left, List.set_append_right _ _ (by omega), e8, Nat.add_sub_cancel_left, this]
      simp [sdc]
def DueD (B g : Nat) (v : Value) (l : List S86) (f n : Int) (out : List S30) (w : World) (e : Ending) (w' : World) : Prop :=
  ∃ vo, e = .returned vo ∧ w'.ownsRow w.heap.size 30 5 vo out.length (pks out) ∧ SndM B g v l f n w' ∧ Upd (sndS g v) w w'
set_option maxHeartbeats 8000000 in
theorem due_c (w : World) (B g : Nat) (v : Value) (l : List S86) (f n0 n N : Int) (hS : SndM B g v l f n0 w) (hN : N = max n0 n) (hN0 : 0 ≤ N) (hN1 : N ≤ 1099511627776) (hT : ∀ x ∈ l, 0 ≤ x.f2 ∧ x.f2 ≤ 1099511627776) (hl : l.length ≤ 100000) :
    Calls Try.prog 24 #[.pointer (some ⟨g, 0, none⟩), .int .i64 n] w (DueD B g v (dueT N l 8) f N (dueO N l 8) w) := by
  obtain ⟨k, hk⟩ : ∃ k, k = l.length := ⟨_, rfl⟩
  obtain ⟨M, hM⟩ : ∃ M, M = min 8 k := ⟨_, rfl⟩
  have HM := Lib.hid hM
  have HK := Lib.hid hk
  have HT := Lib.hid hT
  obtain ⟨A, cc, rfl, hcc⟩ := hS.row.slice
  have q0 := hS.cells.at_ 0
  have q2 := hS.cells.at_ 2
  have f2 := hS.cells.fz 2
  simp only [List.getElem?_cons_zero, List.getElem?_cons_succ] at q0 q2
  have hmx : (if n0 < n then n else n0) = N := by rw [hN]; split <;> omega
  have hmx' : (if n < n0 then n0 else n) = N := by rw [hN]; split <;> omega
  have hmn : (if (8 : Int) < (k : Int) then (8 : Int) else (k : Int)) = (M : Int) := by rw [hM]; split <;> omega
  have hmn' : (if (k : Int) < 8 then (k : Int) else (8 : Int)) = (M : Int) := by rw [hM]; split <;> omega
  have hI1 : SndM B g (.slice A l.length cc) (dueT N l 0) f N (w.setCell ⟨g, 2, none⟩ (.int .i64 N)) := by
    have e : dueT N l 0 = l := by simp [dueT]
    rw [e]
    have hset : Upd (fun k => k = g) w (w.setCell ⟨g, 2, none⟩ (.int .i64 N)) := Upd.set (S := fun k => k = g) (p := ⟨g, 2, none⟩) (Upd.refl _ _) (.inl rfl) _
    exact ⟨by have := hS.cells.set 2 (.int .i64 N); simpa using this, hS.row.upd hset fun k hk e => hS.ne (by rw [hk, e]), hS.hg⟩
  have hU1 : Upd (sndS g (.slice A l.length cc)) w (w.setCell ⟨g, 2, none⟩ (.int .i64 N)) := Upd.set (S := sndS g (.slice A l.length cc)) (p := ⟨g, 2, none⟩) (Upd.refl _ _) (.inl (.inl rfl)) _
  have HI1 := Lib.hid hI1
  have HU1 := Lib.hid hU1
  rw [← hk] at HI1 HU1 q0 hl hcc ⊢
  have hM8 : M ≤ 8 := by omega
  have hMk : M ≤ k := by omega
  have hres : dueT N l 8 = dueT N l M ∧ dueO N l 8 = dueO N l M := by
    rcases Nat.lt_or_ge k 8 with h | h
    · have : M = k := by omega
      unfold dueT dueO
      rw [this, List.take_of_length_le (by omega), List.take_of_length_le (by omega), List.drop_of_length_le (by omega), List.drop_of_length_le (by omega)]
      exact ⟨rfl, rfl⟩
    · have : M = 8 := by omega
      rw [this]; exact ⟨rfl, rfl⟩
  rw [hres.1, hres.2]
  clear hS hI1 hU1 hk hM hN hT hres
  go_enter Try.func24, Try.ntmps24
  go_wp2_with fail
  clear hmx hmx' hmn hmn' q0 q2 f2
  go_loopw [5, 26] (fun ov iv wr => ∃ (i : Nat), iv = .int .i64 (i : Int) ∧ i ≤ M ∧ SndM B g (.slice A k cc) (dueT N l i) f N wr ∧ wr.ownsRow w.heap.size 30 5 ov (dueO N l i).length (pks (dueO N l i)) ∧ Upd (sndS g (.slice A k cc)) w wr) (fun _ iv _ => M - (intOf iv).toNat)
  case atStart => exact ⟨0, rfl, Nat.zero_le _, HI1.out, World.ownsRow_nil _ _ _ _, HU1.out⟩
  case round =>
    obtain ⟨i, rfl, hi, hI, ho, hu⟩ := hrel
    rcases Nat.lt_or_ge i M with hlt | hge
    · have e1 : decide ((i : Int) < (M : Int)) = true := decide_eq_true (by omega)
      have e2 : decide (i < M) = true := decide_eq_true hlt
      have i1 : (i : Int) < (k : Int) := by omega
      have i2 : i < k := by omega
      obtain ⟨x, hx⟩ : ∃ x, l[i]? = some x := ⟨_, List.getElem?_eq_getElem (by rw [← HK.out]; exact i2)⟩
      have hxT := HT.out x (List.mem_of_getElem? hx)
      have hat := dueT_at N l i x hx
      obtain ⟨g1, o, cap, hv, hcap, hB1, hg1, hcell, hfz⟩ := hI.row.at_ (by rw [dueT_len, ← HK.out]; omega)
      rw [dueT_len, ← HK.out] at hv hcell
      injection hv with hv1 hv2 hv3
      subst hv1 hv3
      have cell : ∀ j, j < 8 → wr.cell? ⟨g1, o + i * 8 + j, none⟩ = (sdc1 x)[j]? := fun j hj => by
        have := hcell (i * 8 + j) (by omega)
        rw [sdc_at _ i x hat j hj, ← Nat.add_assoc] at this
        exact this
      have k7 := cell 7 (by omega)
      have k5 := cell 5 (by omega)
      have k6 := cell 6 (by omega)
      have n0' := hI.cells.at_ 0
      have n2' := hI.cells.at_ 2
      simp only [sdc1, List.getElem?_cons_zero, List.getElem?_cons_succ] at k7 k5 k6 n0' n2'
      have CA := Lib.hid (fun wx (h : Grew wr wx) => pw_cell_below h k7)
      have CS := Lib.hid (fun wx (h : Grew wr wx) => pw_cell_below h k5)
      have CT := Lib.hid (fun wx (h : Grew wr wx) => pw_cell_below h k6)
      have CN := Lib.hid (fun wx (h : Grew wr wx) => pw_cell_below h n2')
      have HC := Lib.hid hcell
      have HCELL := Lib.hid cell
      have HF := Lib.hid hfz
      have HI := Lib.hid hI
      have HO := Lib.hid ho
      have HU := Lib.hid hu
      have HX := Lib.hid hx
      have HAT := Lib.hid hat
      obtain ⟨⟨f0, f1, f2, f3, f4⟩, s, t, c⟩ := x
      simp only at CA CS CT hxT
      obtain ⟨hx0, hx1⟩ := hxT
      have hlen := Lib.hid (dueO_len N l i)
      clear hI ho hu hx hat k7 k5 k6 n2' cell hcell hfz
      cases c with
      | true =>
        have hsk : skipX N ⟨⟨f0, f1, f2, f3, f4⟩, s, t, true⟩ = true := rfl
        have HSK := Lib.hid hsk
        clear hsk
        go_wp2_with fail
        apply region_grew [Is _, Is _, Is _, Is _, Is _, Is undef, Is undef, Is undef, Is undef, Is undef, Is undef, Is undef, Is undef, Is undef, Is undef, Is undef, Is undef, Is undef] [([(7, none)], none), ([(35, some 0)], none), ([(36, some 1)], none), ([(37, some 2)], none), ([(38, some 3)], none), ([(7, none), (39, some 4)], some (39, false)), ([(40, some 5), (39, some 4)], some (39, false)), ([(41, some 6), (39, some 4)], some (39, false)), ([(42, some 7), (39, some 4)], some (39, false)), ([(43, some 8), (39, some 4)], some (39, false)), ([(0, none), (44, some 9)], some (44, true)), ([(45, some 10), (44, some 9)], some (44, true)), ([(46, some 11), (44, some 9)], some (44, true)), ([(47, some 12), (44, some 9)], some (44, true)), ([(7, none), (44, some 9)], some (44, true)), ([(49, some 14), (44, some 9)], some (44, true)), ([(50, some 15), (44, some 9)], some (44, true)), ([(51, some 16), (44, some 9)], some (44, true))] [(35, 0), (36, 1), (37, 2), (38, 3), (39, 4), (40, 5), (41, 6), (42, 7), (43, 8), (44, 9), (45, 10), (46, 11), (47, 12), (48, 13), (49, 14), (50, 15), (51, 16), (52, 17)] rfl (by kernel_rfl) (by kernel_rfl) (show Stable Grew _ from ⟨Is.stable _, Is.stable _, Is.stable _, Is.stable _, Is.stable _, Is.stable _, Is.stable _, Is.stable _, Is.stable _, Is.stable _, Is.stable _, Is.stable _, Is.stable _, Is.stable _, Is.stable _, Is.stable _, Is.stable _, Is.stable _, trivial⟩)
        · show OpsHold _ _ _ _ _ _ _ _ _
          refine ⟨fun a_ wx hR hD K hK => ?_, ?_⟩
          · have hG : Grew wr wx := (Grew.drew _).trans hR
            simp [Deps, Dep, at_, Is] at hD
            go_simp
            exact hK _ _ (Grew.refl _) rfl
          refine ⟨fun a_ wx hR hD K hK => ?_, ?_⟩
          · have hG : Grew wr wx := (Grew.drew _).trans hR
            simp [Deps, Dep, at_, Is] at hD
            go_simp
            exact hK _ _ (Grew.refl _) rfl
          refine ⟨fun a_ wx hR hD K hK => ?_, ?_⟩
          · have hG : Grew wr wx := (Grew.drew _).trans hR
            simp [Deps, Dep, at_, Is] at hD
            go_simp
            exact hK _ _ (Grew.refl _) rfl
          refine ⟨fun a_ wx hR hD K hK => ?_, ?_⟩
          · have hG : Grew wr wx := (Grew.drew _).trans hR
            simp [Deps, Dep, at_, Is] at hD
            have e_ := CA.out wx hG
            go_simp
            exact hK _ _ (Grew.refl _) rfl
          refine ⟨fun a_ wx hR hD K hK => ?_, ?_⟩
          · have hG : Grew wr wx := (Grew.drew _).trans hR
            simp [Deps, Dep, at_, Is] at hD
            go_simp
            exact hK _ _ (Grew.refl _) rfl
          refine ⟨fun a_ wx hR hD => ⟨fun hgd K hK => ?_, fun hgd => ?_⟩, ?_⟩
          · have hG : Grew wr wx := (Grew.drew _).trans hR
            exfalso
            simp [Deps, Dep, at_, Is] at hD
            first | (simp_all; done) | (simp_all [undef]; done)
          · exact rfl
          refine ⟨fun a_ wx hR hD => ⟨fun hgd K hK => ?_, fun hgd => ?_⟩, ?_⟩
          · have hG : Grew wr wx := (Grew.drew _).trans hR
            exfalso
            simp [Deps, Dep, at_, Is] at hD
            first | (simp_all; done) | (simp_all [undef]; done)
          · exact rfl
          refine ⟨fun a_ wx hR hD => ⟨fun hgd K hK => ?_, fun hgd => ?_⟩, ?_⟩
          · have hG : Grew wr wx := (Grew.drew _).trans hR
            exfalso
            simp [Deps, Dep, at_, Is] at hD
            first | (simp_all; done) | (simp_all [undef]; done)
          · exact rfl
          refine ⟨fun a_ wx hR hD => ⟨fun hgd K hK => ?_, fun hgd => ?_⟩, ?_⟩
          · have hG : Grew wr wx := (Grew.drew _).trans hR
            exfalso
            simp [Deps, Dep, at_, Is] at hD
            first | (simp_all; done) | (simp_all [undef]; done)
          · exact rfl
          refine ⟨fun a_ wx hR hD => ⟨fun hgd K hK => ?_, fun hgd => ?_⟩, ?_⟩
          · have hG : Grew wr wx := (Grew.drew _).trans hR
            exfalso
            simp [Deps, Dep, at_, Is] at hD
            first | (simp_all; done) | (simp_all [undef]; done)
          · exact rfl
          refine ⟨fun a_ wx hR hD => ⟨fun hgd K hK => ?_, fun hgd => ?_⟩, ?_⟩
          · have hG : Grew wr wx := (Grew.drew _).trans hR
            exfalso
            simp [Deps, Dep, at_, Is] at hD
            first | (simp_all; done) | (simp_all [undef]; done)
          · exact rfl
          refine ⟨fun a_ wx hR hD => ⟨fun hgd K hK => ?_, fun hgd => ?_⟩, ?_⟩
          · have hG : Grew wr wx := (Grew.drew _).trans hR
            exfalso
            simp [Deps, Dep, at_, Is] at hD
            first | (simp_all; done) | (simp_all [undef]; done)
          · exact rfl
          refine ⟨fun a_ wx hR hD => ⟨fun hgd K hK => ?_, fun hgd => ?_⟩, ?_⟩
          · have hG : Grew wr wx := (Grew.drew _).trans hR
            exfalso
            simp [Deps, Dep, at_, Is] at hD
            first | (simp_all; done) | (simp_all [undef]; done)
          · exact rfl
          refine ⟨fun a_ wx hR hD => ⟨fun hgd K hK => ?_, fun hgd => ?_⟩, ?_⟩
          · have hG : Grew wr wx := (Grew.drew _).trans hR
            exfalso
            simp [Deps, Dep, at_, Is] at hD
            first | (simp_all; done) | (simp_all [undef]; done)
          · exact rfl
          refine ⟨fun a_ wx hR hD => ⟨fun hgd K hK => ?_, fun hgd => ?_⟩, ?_⟩
          · have hG : Grew wr wx := (Grew.drew _).trans hR
            exfalso
            simp [Deps, Dep, at_, Is] at hD
            first | (simp_all; done) | (simp_all [undef]; done)
          · exact rfl
          refine ⟨fun a_ wx hR hD => ⟨fun hgd K hK => ?_, fun hgd => ?_⟩, ?_⟩
          · have hG : Grew wr wx := (Grew.drew _).trans hR
            exfalso
            simp [Deps, Dep, at_, Is] at hD
            first | (simp_all; done) | (simp_all [undef]; done)
          · exact rfl
          refine ⟨fun a_ wx hR hD => ⟨fun hgd K hK => ?_, fun hgd => ?_⟩, ?_⟩
          · have hG : Grew wr wx := (Grew.drew _).trans hR
            exfalso
            simp [Deps, Dep, at_, Is] at hD
            first | (simp_all; done) | (simp_all [undef]; done)
          · exact rfl
          refine ⟨fun a_ wx hR hD => ⟨fun hgd K hK => ?_, fun hgd => ?_⟩, ?_⟩
          · have hG : Grew wr wx := (Grew.drew _).trans hR
            exfalso
            simp [Deps, Dep, at_, Is] at hD
            first | (simp_all; done) | (simp_all [undef]; done)
          · exact rfl
          trivial
        · show EndHold _ _ _ _ _ _ _
          refine end_all (xs := [_, _, _, _, _, _, _, _, _, _, _, _, _, _, _, _, _, _]) ⟨rfl, rfl, rfl, rfl, rfl, rfl, rfl, rfl, rfl, rfl, rfl, rfl, rfl, rfl, rfl, rfl, rfl, rfl, trivial⟩ ?_
          rintro w5 hR1 -
          refine ⟨?_⟩
          have hG_w5 : Grew wr w5 := (Grew.drew _).trans hR1
          clear hR1
          simp only [Act.put, List.setIfInBounds_toArray, List.set_cons_succ, List.set_cons_zero, dropN, putEach]
          go_wp2_with fail
          go_roundw
          case rel => exact ⟨i + 1, by go_num, by omega, by rw [dueT_same N l i _ HX.out HSK.out]; exact HI.out.grew hG_w5, by rw [dueO_skip N l i _ HX.out HSK.out]; exact pw_own_below HO.out hG_w5, HU.out.trans (Upd.of_grew hG_w5)⟩
          case measure => simp [intOf]; omega
      | false =>
        cases s with
        | false =>
          have hsk : skipX N ⟨⟨f0, f1, f2, f3, f4⟩, false, t, false⟩ = false := rfl
          have HSK := Lib.hid hsk
          clear hsk
          go_wp2_with fail
          apply region_grew [Is _, Is _, Is _, Is _, Is _, Is _, Is _, Is _, Is _, Is _, Is undef, Is undef, Is undef, Is undef, Is undef, Is undef, Is undef, Is undef] [([(7, none)], none), ([(35, some 0)], none), ([(36, some 1)], none), ([(37, some 2)], none), ([(38, some 3)], none), ([(7, none), (39, some 4)], some (39, false)), ([(40, some 5), (39, some 4)], some (39, false)), ([(41, some 6), (39, some 4)], some (39, false)), ([(42, some 7), (39, some 4)], some (39, false)), ([(43, some 8), (39, some 4)], some (39, false)), ([(0, none), (44, some 9)], some (44, true)), ([(45, some 10), (44, some 9)], some (44, true)), ([(46, some 11), (44, some 9)], some (44, true)), ([(47, some 12), (44, some 9)], some (44, true)), ([(7, none), (44, some 9)], some (44, true)), ([(49, some 14), (44, some 9)], some (44, true)), ([(50, some 15), (44, some 9)], some (44, true)), ([(51, some 16), (44, some 9)], some (44, true))] [(35, 0), (36, 1), (37, 2), (38, 3), (39, 4), (40, 5), (41, 6), (42, 7), (43, 8), (44, 9), (45, 10), (46, 11), (47, 12), (48, 13), (49, 14), (50, 15), (51, 16), (52, 17)] rfl (by kernel_rfl) (by kernel_rfl) (show Stable Grew _ from ⟨Is.stable _, Is.stable _, Is.stable _, Is.stable _, Is.stable _, Is.stable _, Is.stable _, Is.stable _, Is.stable _, Is.stable _, Is.stable _, Is.stable _, Is.stable _, Is.stable _, Is.stable _, Is.stable _, Is.stable _, Is.stable _, trivial⟩)
          · show OpsHold _ _ _ _ _ _ _ _ _
            refine ⟨fun a_ wx hR hD K hK => ?_, ?_⟩
            · have hG : Grew wr wx := (Grew.drew _).trans hR
              simp [Deps, Dep, at_, Is] at hD
              go_simp
              exact hK _ _ (Grew.refl _) rfl
            refine ⟨fun a_ wx hR hD K hK => ?_, ?_⟩
            · have hG : Grew wr wx := (Grew.drew _).trans hR
              simp [Deps, Dep, at_, Is] at hD
              go_simp
              exact hK _ _ (Grew.refl _) rfl
            refine ⟨fun a_ wx hR hD K hK => ?_, ?_⟩
            · have hG : Grew wr wx := (Grew.drew _).trans hR
              simp [Deps, Dep, at_, Is] at hD
              go_simp
              exact hK _ _ (Grew.refl _) rfl
            refine ⟨fun a_ wx hR hD K hK => ?_, ?_⟩
            · have hG : Grew wr wx := (Grew.drew _).trans hR
              simp [Deps, Dep, at_, Is] at hD
              have e_ := CA.out wx hG
              go_simp
              exact hK _ _ (Grew.refl _) rfl
            refine ⟨fun a_ wx hR hD K hK => ?_, ?_⟩
            · have hG : Grew wr wx := (Grew.drew _).trans hR
              simp [Deps, Dep, at_, Is] at hD
              go_simp
              exact hK _ _ (Grew.refl _) rfl
            refine ⟨fun a_ wx hR hD => ⟨fun hgd K hK => ?_, fun hgd => ?_⟩, ?_⟩
            · have hG : Grew wr wx := (Grew.drew _).trans hR
              clear hgd
              simp [Deps, Dep, at_, Is] at hD
              obtain ⟨hd0, hd1⟩ := hD
              go_simp
              exact hK _ _ (Grew.refl _) rfl
            · have hG : Grew wr wx := (Grew.drew _).trans hR
              exfalso
              simp [Deps, Dep, at_, Is] at hD
              first | (simp_all; done) | (simp_all [undef]; done)
            refine ⟨fun a_ wx hR hD => ⟨fun hgd K hK => ?_, fun hgd => ?_⟩, ?_⟩
            · have hG : Grew wr wx := (Grew.drew _).trans hR
              clear hgd
              simp [Deps, Dep, at_, Is] at hD
              obtain ⟨hd0, hd1⟩ := hD
              go_simp
              exact hK _ _ (Grew.refl _) rfl
            · have hG : Grew wr wx := (Grew.drew _).trans hR
              exfalso
              simp [Deps, Dep, at_, Is] at hD
              first | (simp_all; done) | (simp_all [undef]; done)
            refine ⟨fun a_ wx hR hD => ⟨fun hgd K hK => ?_, fun hgd => ?_⟩, ?_⟩
            · have hG : Grew wr wx := (Grew.drew _).trans hR
              clear hgd
              simp [Deps, Dep, at_, Is] at hD
              obtain ⟨hd0, hd1⟩ := hD
              go_simp
              exact hK _ _ (Grew.refl _) rfl
            · have hG : Grew wr wx := (Grew.drew _).trans hR
              exfalso
              simp [Deps, Dep, at_, Is] at hD
              first | (simp_all; done) | (simp_all [undef]; done)
            refine ⟨fun a_ wx hR hD => ⟨fun hgd K hK => ?_, fun hgd => ?_⟩, ?_⟩
            · have hG : Grew wr wx := (Grew.drew _).trans hR
              clear hgd
              simp [Deps, Dep, at_, Is] at hD
              obtain ⟨hd0, hd1⟩ := hD
              have e_ := CS.out wx hG
              go_simp
              exact hK _ _ (Grew.refl _) rfl
            · have hG : Grew wr wx := (Grew.drew _).trans hR
              exfalso
              simp [Deps, Dep, at_, Is] at hD
              first | (simp_all; done) | (simp_all [undef]; done)
            refine ⟨fun a_ wx hR hD => ⟨fun hgd K hK => ?_, fun hgd => ?_⟩, ?_⟩
            · have hG : Grew wr wx := (Grew.drew _).trans hR
              clear hgd
              simp [Deps, Dep, at_, Is] at hD
              obtain ⟨hd0, hd1⟩ := hD
              go_simp
              exact hK _ _ (Grew.refl _) rfl
            · have hG : Grew wr wx := (Grew.drew _).trans hR
              exfalso
              simp [Deps, Dep, at_, Is] at hD
              first | (simp_all; done) | (simp_all [undef]; done)
            refine ⟨fun a_ wx hR hD => ⟨fun hgd K hK => ?_, fun hgd => ?_⟩, ?_⟩
            · have hG : Grew wr wx := (Grew.drew _).trans hR
              exfalso
              simp [Deps, Dep, at_, Is] at hD
              first | (simp_all; done) | (simp_all [undef]; done)
            · exact rfl
            refine ⟨fun a_ wx hR hD => ⟨fun hgd K hK => ?_, fun hgd => ?_⟩, ?_⟩
            · have hG : Grew wr wx := (Grew.drew _).trans hR
              exfalso
              simp [Deps, Dep, at_, Is] at hD
              first | (simp_all; done) | (simp_all [undef]; done)
            · exact rfl
            refine ⟨fun a_ wx hR hD => ⟨fun hgd K hK => ?_, fun hgd => ?_⟩, ?_⟩
            · have hG : Grew wr wx := (Grew.drew _).trans hR
              exfalso
              simp [Deps, Dep, at_, Is] at hD
              first | (simp_all; done) | (simp_all [undef]; done)
            · exact rfl
            refine ⟨fun a_ wx hR hD => ⟨fun hgd K hK => ?_, fun hgd => ?_⟩, ?_⟩
            · have hG : Grew wr wx := (Grew.drew _).trans hR
              exfalso
              simp [Deps, Dep, at_, Is] at hD
              first | (simp_all; done) | (simp_all [undef]; done)
            · exact rfl
            refine ⟨fun a_ wx hR hD => ⟨fun hgd K hK => ?_, fun hgd => ?_⟩, ?_⟩
            · have hG : Grew wr wx := (Grew.drew _).trans hR
              exfalso
              simp [Deps, Dep, at_, Is] at hD
              first | (simp_all; done) | (simp_all [undef]; done)
            · exact rfl
            refine ⟨fun a_ wx hR hD => ⟨fun hgd K hK => ?_, fun hgd => ?_⟩, ?_⟩
            · have hG : Grew wr wx := (Grew.drew _).trans hR
              exfalso
              simp [Deps, Dep, at_, Is] at hD
              first | (simp_all; done) | (simp_all [undef]; done)
            · exact rfl
            refine ⟨fun a_ wx hR hD => ⟨fun hgd K hK => ?_, fun hgd => ?_⟩, ?_⟩
            · have hG : Grew wr wx := (Grew.drew _).trans hR
              exfalso
              simp [Deps, Dep, at_, Is] at hD
              first | (simp_all; done) | (simp_all [undef]; done)
            · exact rfl
            refine ⟨fun a_ wx hR hD => ⟨fun hgd K hK => ?_, fun hgd => ?_⟩, ?_⟩
            · have hG : Grew wr wx := (Grew.drew _).trans hR
              exfalso
              simp [Deps, Dep, at_, Is] at hD
              first | (simp_all; done) | (simp_all [undef]; done)
            · exact rfl
            trivial
          · show EndHold _ _ _ _ _ _ _
            refine end_all (xs := [_, _, _, _, _, _, _, _, _, _, _, _, _, _, _, _, _, _]) ⟨rfl, rfl, rfl, rfl, rfl, rfl, rfl, rfl, rfl, rfl, rfl, rfl, rfl, rfl, rfl, rfl, rfl, rfl, trivial⟩ ?_
            rintro w5 hR1 -
            refine ⟨?_⟩
            have hG_w5 : Grew wr w5 := (Grew.drew _).trans hR1
            clear hR1
            simp only [Act.put, List.setIfInBounds_toArray, List.set_cons_succ, List.set_cons_zero, dropN, putEach]
            have hI5 := HI.out.grew hG_w5
            have ho5 := pw_own_below HO.out hG_w5
            have hu5 := HU.out.trans (Upd.of_grew (S := sndS g (.slice (some ⟨g1, o, none⟩) k cc)) hG_w5)
            have c5 := pw_cell_below hG_w5 (HCELL.out 5 (by omega))
            have c6 := pw_cell_below hG_w5 (HCELL.out 6 (by omega))
            have c0 := pw_cell_below hG_w5 (HCELL.out 0 (by omega))
            have c1 := pw_cell_below hG_w5 (HCELL.out 1 (by omega))
            have c2 := pw_cell_below hG_w5 (HCELL.out 2 (by omega))
            have c3 := pw_cell_below hG_w5 (HCELL.out 3 (by omega))
            have c4 := pw_cell_below hG_w5 (HCELL.out 4 (by omega))
            have c9 := CN.out w5 hG_w5
            simp only [sdc1, List.getElem?_cons_zero, List.getElem?_cons_succ, Nat.add_zero] at c5 c6 c0 c1 c2 c3 c4
            have z5 : w5.frozen? ⟨g1, o + i * 8 + 5, none⟩ = false := (hG_w5.frozen (p := ⟨g1, o + i * 8 + 5, none⟩) hg1).trans (HF.out _)
            have z6 : w5.frozen? ⟨g1, o + i * 8 + 6, none⟩ = false := (hG_w5.frozen (p := ⟨g1, o + i * 8 + 6, none⟩) hg1).trans (HF.out _)
            obtain ⟨W6, hW6⟩ : ∃ W6, W6 = (w5.setCell ⟨g1, o + i * 8 + 5, none⟩ (.bool true)).setCell ⟨g1, o + i * 8 + 6, none⟩ (.int .i64 N) := ⟨_, rfl⟩
            have hs6 : Upd (fun j => j = g1) w5 W6 := by
              rw [hW6]
              exact Upd.set (S := fun j => j = g1) (p := ⟨g1, o + i * 8 + 6, none⟩) (Upd.set (S := fun j => j = g1) (p := ⟨g1, o + i * 8 + 5, none⟩) (Upd.refl _ _) (.inl rfl) _) (.inl rfl) _
            have hrow6 : RowO W6 B 86 8 (.slice (some ⟨g1, o, none⟩) k cc) k (sdc ((dueT N l i).set i ⟨⟨f0, f1, f2, f3, f4⟩, true, N, false⟩)) := by
              have h := hI5.row
              rw [dueT_len, ← HK.out] at h
              have h := (h.set rfl (i * 8 + 5) (by omega) (.bool true)).set rfl (i * 8 + 6) (by omega) (.int .i64 N)
              rw [sdc_set _ i _ true N HAT.out, ← Nat.add_assoc, ← Nat.add_assoc, ← hW6] at h
              exact h
            have hne1 := hI5.ne
            have hI6 : SndM B g (.slice (some ⟨g1, o, none⟩) k cc) (dueT N l (i + 1)) f N W6 := by
              refine ⟨hI5.cells.upd hs6 (fun e => hne1 (by rw [e]; rfl)), ?_, hI5.hg⟩
              rw [dueT_len, ← HK.out, dueT_succ N l i _ HX.out]
              have e : dueX N ⟨⟨f0, f1, f2, f3, f4⟩, false, t, false⟩ = ⟨⟨f0, f1, f2, f3, f4⟩, true, N, false⟩ := by unfold dueX; rw [HSK.out]; rfl
              rw [e]
              exact hrow6
            have hu6 := hu5.trans (hs6.mono fun j _ e => .inr (by rw [e]; rfl))
            have ho6 := hs6.own ho5 (fun j hj e => hI5.ne_own ho5 j (.inr (by rw [e]; rfl)) hj)
            obtain ⟨Ao, co, rfl⟩ := own_slice ho5
            have hz6 : W6.heap.size = w5.heap.size := by rw [hW6]; simp
            have hgr7 : Grew W6 (W6.alloc (.cells (pkc ⟨f0, f1, f2, f3, f4⟩).toArray 30)) := Grew.alloc _ _
            obtain ⟨v8, w8, hrun, hown8, hgr8, -⟩ := app_cells (P := Try.prog) (W6.alloc (.cells (pkc ⟨f0, f1, f2, f3, f4⟩).toArray 30)) w.heap.size 53 30 53 (.agg #[.bool false, .int .i64 0, .bool false, .string ⟨#[]⟩, .int .i64 0]) 5 48 Try.underlying53 infoPk rfl (by decide) (by decide) (.slice Ao (dueO N l i).length co) (dueO N l i).length (pks (dueO N l i)) W6.heap.size (pkc ⟨f0, f1, f2, f3, f4⟩) rfl (by intro u hu; simp [pkc] at hu; rcases hu with rfl | rfl | rfl | rfl | rfl <;> rfl) (pw_own_below ho6 hgr7) (Blk.new _ _ _) (Nat.le_trans hu6.size hgr7.size) (by have := hlen.out; omega)
            rw [hz6, hW6] at hrun
            have hI7 := hI6.grew hgr7
            have hI8 := hI7.far (Upd.of_grown hgr8) (fun j hj => hI7.ne_own (pw_own_below ho6 hgr7) j hj)
            have hu8 := (hu6.trans (Upd.of_grew (S := sndS g (.slice (some ⟨g1, o, none⟩) k cc)) hgr7)).grown hgr8 (fun j hj => .inr (own_base ho6 j hj))
            have HI8 := Lib.hid hI8
            have HU8 := Lib.hid hu8
            have HO8 := Lib.hid hown8
            have HRUN := Lib.hid hrun
            clear hI5 ho5 hu5 hs6 hrow6 hne1 hI6 hu6 ho6 hW6 hG_w5 hI7 hI8 hu8 hown8 hrun hgr8 hgr7 hz6
            go_wp2_with (at_builtin; refine wpList_app (by rfl) (.tmp 67) (.tmp 72) 53 (by rfl) (by rfl) (by rfl) HRUN.out ?_)
            go_roundw
            case rel => exact ⟨i + 1, by go_num, by omega, HI8.out, by rw [dueO_take N l i _ HX.out HSK.out, List.length_append, pks_snoc]; exact HO8.out, HU8.out⟩
            case measure => simp [intOf]; omega
        | true =>
          have hw : IntKind.i64.wrap (N - t) = N - t := IntWalk.i64_in _ (by omega)
          by_cases h4 : N - t < 4
          · have d4 : decide (N - t < 4) = true := decide_eq_true h4
            have hsk : skipX N ⟨⟨f0, f1, f2, f3, f4⟩, true, t, false⟩ = true := by unfold skipX; rw [d4]; rfl
            have HSK := Lib.hid hsk
            clear hsk h4
            go_wp2_with fail
            apply region_grew [Is _, Is _, Is _, Is _, Is _, Is _, Is _, Is _, Is _, Is _, Is _, Is _, Is _, Is _, Is _, Is _, Is _, Is _] [([(7, none)], none), ([(35, some 0)], none), ([(36, some 1)], none), ([(37, some 2)], none), ([(38, some 3)], none), ([(7, none), (39, some 4)], some (39, false)), ([(40, some 5), (39, some 4)], some (39, false)), ([(41, some 6), (39, some 4)], some (39, false)), ([(42, some 7), (39, some 4)], some (39, false)), ([(43, some 8), (39, some 4)], some (39, false)), ([(0, none), (44, some 9)], some (44, true)), ([(45, some 10), (44, some 9)], some (44, true)), ([(46, some 11), (44, some 9)], some (44, true)), ([(47, some 12), (44, some 9)], some (44, true)), ([(7, none), (44, some 9)], some (44, true)), ([(49, some 14), (44, some 9)], some (44, true)), ([(50, some 15), (44, some 9)], some (44, true)), ([(51, some 16), (44, some 9)], some (44, true))] [(35, 0), (36, 1), (37, 2), (38, 3), (39, 4), (40, 5), (41, 6), (42, 7), (43, 8), (44, 9), (45, 10), (46, 11), (47, 12), (48, 13), (49, 14), (50, 15), (51, 16), (52, 17)] rfl (by kernel_rfl) (by kernel_rfl) (show Stable Grew _ from ⟨Is.stable _, Is.stable _, Is.stable _, Is.stable _, Is.stable _, Is.stable _, Is.stable _, Is.stable _, Is.stable _, Is.stable _, Is.stable _, Is.stable _, Is.stable _, Is.stable _, Is.stable _, Is.stable _, Is.stable _, Is.stable _, trivial⟩)
            · show OpsHold _ _ _ _ _ _ _ _ _
              refine ⟨fun a_ wx hR hD K hK => ?_, ?_⟩
              · have hG : Grew wr wx := (Grew.drew _).trans hR
                simp [Deps, Dep, at_, Is] at hD
                go_simp
                exact hK _ _ (Grew.refl _) rfl
              refine ⟨fun a_ wx hR hD K hK => ?_, ?_⟩
              · have hG : Grew wr wx := (Grew.drew _).trans hR
                simp [Deps, Dep, at_, Is] at hD
                go_simp
                exact hK _ _ (Grew.refl _) rfl
              refine ⟨fun a_ wx hR hD K hK => ?_, ?_⟩
              · have hG : Grew wr wx := (Grew.drew _).trans hR
                simp [Deps, Dep, at_, Is] at hD
                go_simp
                exact hK _ _ (Grew.refl _) rfl
              refine ⟨fun a_ wx hR hD K hK => ?_, ?_⟩
              · have hG : Grew wr wx := (Grew.drew _).trans hR
                simp [Deps, Dep, at_, Is] at hD
                have e_ := CA.out wx hG
                go_simp
                exact hK _ _ (Grew.refl _) rfl
              refine ⟨fun a_ wx hR hD K hK => ?_, ?_⟩
              · have hG : Grew wr wx := (Grew.drew _).trans hR
                simp [Deps, Dep, at_, Is] at hD
                go_simp
                exact hK _ _ (Grew.refl _) rfl
              refine ⟨fun a_ wx hR hD => ⟨fun hgd K hK => ?_, fun hgd => ?_⟩, ?_⟩
              · have hG : Grew wr wx := (Grew.drew _).trans hR
                clear hgd
                simp [Deps, Dep, at_, Is] at hD
                obtain ⟨hd0, hd1⟩ := hD
                go_simp
                exact hK _ _ (Grew.refl _) rfl
              · have hG : Grew wr wx := (Grew.drew _).trans hR
                exfalso
                simp [Deps, Dep, at_, Is] at hD
                first | (simp_all; done) | (simp_all [undef]; done)
              refine ⟨fun a_ wx hR hD => ⟨fun hgd K hK => ?_, fun hgd => ?_⟩, ?_⟩
              · have hG : Grew wr wx := (Grew.drew _).trans hR
                clear hgd
                simp [Deps, Dep, at_, Is] at hD
                obtain ⟨hd0, hd1⟩ := hD
                go_simp
                exact hK _ _ (Grew.refl _) rfl
              · have hG : Grew wr wx := (Grew.drew _).trans hR
                exfalso
                simp [Deps, Dep, at_, Is] at hD
                first | (simp_all; done) | (simp_all [undef]; done)
              refine ⟨fun a_ wx hR hD => ⟨fun hgd K hK => ?_, fun hgd => ?_⟩, ?_⟩
              · have hG : Grew wr wx := (Grew.drew _).trans hR
                clear hgd
                simp [Deps, Dep, at_, Is] at hD
                obtain ⟨hd0, hd1⟩ := hD
                go_simp
                exact hK _ _ (Grew.refl _) rfl
              · have hG : Grew wr wx := (Grew.drew _).trans hR
                exfalso
                simp [Deps, Dep, at_, Is] at hD
                first | (simp_all; done) | (simp_all [undef]; done)
              refine ⟨fun a_ wx hR hD => ⟨fun hgd K hK => ?_, fun hgd => ?_⟩, ?_⟩
              · have hG : Grew wr wx := (Grew.drew _).trans hR
                clear hgd
                simp [Deps, Dep, at_, Is] at hD
                obtain ⟨hd0, hd1⟩ := hD
                have e_ := CS.out wx hG
                go_simp
                exact hK _ _ (Grew.refl _) rfl
              · have hG : Grew wr wx := (Grew.drew _).trans hR
                exfalso
                simp [Deps, Dep, at_, Is] at hD
                first | (simp_all; done) | (simp_all [undef]; done)
              refine ⟨fun a_ wx hR hD => ⟨fun hgd K hK => ?_, fun hgd => ?_⟩, ?_⟩
              · have hG : Grew wr wx := (Grew.drew _).trans hR
                clear hgd
                simp [Deps, Dep, at_, Is] at hD
                obtain ⟨hd0, hd1⟩ := hD
                go_simp
                exact hK _ _ (Grew.refl _) rfl
              · have hG : Grew wr wx := (Grew.drew _).trans hR
                exfalso
                simp [Deps, Dep, at_, Is] at hD
                first | (simp_all; done) | (simp_all [undef]; done)
              refine ⟨fun a_ wx hR hD => ⟨fun hgd K hK => ?_, fun hgd => ?_⟩, ?_⟩
              · have hG : Grew wr wx := (Grew.drew _).trans hR
                clear hgd
                simp [Deps, Dep, at_, Is] at hD
                obtain ⟨hd0, hd1⟩ := hD
                go_simp
                exact hK _ _ (Grew.refl _) rfl
              · have hG : Grew wr wx := (Grew.drew _).trans hR
                exfalso
                simp [Deps, Dep, at_, Is] at hD
                first | (simp_all; done) | (simp_all [undef]; done)
              refine ⟨fun a_ wx hR hD => ⟨fun hgd K hK => ?_, fun hgd => ?_⟩, ?_⟩
              · have hG : Grew wr wx := (Grew.drew _).trans hR
                clear hgd
                simp [Deps, Dep, at_, Is] at hD
                obtain ⟨hd0, hd1⟩ := hD
                go_simp
                exact hK _ _ (Grew.refl _) rfl
              · have hG : Grew wr wx := (Grew.drew _).trans hR
                exfalso
                simp [Deps, Dep, at_, Is] at hD
                first | (simp_all; done) | (simp_all [undef]; done)
              refine ⟨fun a_ wx hR hD => ⟨fun hgd K hK => ?_, fun hgd => ?_⟩, ?_⟩
              · have hG : Grew wr wx := (Grew.drew _).trans hR
                clear hgd
                simp [Deps, Dep, at_, Is] at hD
                obtain ⟨hd0, hd1⟩ := hD
                go_simp
                exact hK _ _ (Grew.refl _) rfl
              · have hG : Grew wr wx := (Grew.drew _).trans hR
                exfalso
                simp [Deps, Dep, at_, Is] at hD
                first | (simp_all; done) | (simp_all [undef]; done)
              refine ⟨fun a_ wx hR hD => ⟨fun hgd K hK => ?_, fun hgd => ?_⟩, ?_⟩
              · have hG : Grew wr wx := (Grew.drew _).trans hR
                clear hgd
                simp [Deps, Dep, at_, Is] at hD
                obtain ⟨hd0, hd1⟩ := hD
                have e_ := CN.out wx hG
                go_simp
                exact hK _ _ (Grew.refl _) rfl
              · have hG : Grew wr wx := (Grew.drew _).trans hR
                exfalso
                simp [Deps, Dep, at_, Is] at hD
                first | (simp_all; done) | (simp_all [undef]; done)
              refine ⟨fun a_ wx hR hD => ⟨fun hgd K hK => ?_, fun hgd => ?_⟩, ?_⟩
              · have hG : Grew wr wx := (Grew.drew _).trans hR
                clear hgd
                simp [Deps, Dep, at_, Is] at hD
                obtain ⟨hd0, hd1⟩ := hD
                go_simp
                exact hK _ _ (Grew.refl _) rfl
              · have hG : Grew wr wx := (Grew.drew _).trans hR
                exfalso
                simp [Deps, Dep, at_, Is] at hD
                first | (simp_all; done) | (simp_all [undef]; done)
              refine ⟨fun a_ wx hR hD => ⟨fun hgd K hK => ?_, fun hgd => ?_⟩, ?_⟩
              · have hG : Grew wr wx := (Grew.drew _).trans hR
                clear hgd
                simp [Deps, Dep, at_, Is] at hD
                obtain ⟨hd0, hd1⟩ := hD
                go_simp
                exact hK _ _ (Grew.refl _) rfl
              · have hG : Grew wr wx := (Grew.drew _).trans hR
                exfalso
                simp [Deps, Dep, at_, Is] at hD
                first | (simp_all; done) | (simp_all [undef]; done)
              refine ⟨fun a_ wx hR hD => ⟨fun hgd K hK => ?_, fun hgd => ?_⟩, ?_⟩
              · have hG : Grew wr wx := (Grew.drew _).trans hR
                clear hgd
                simp [Deps, Dep, at_, Is] at hD
                obtain ⟨hd0, hd1⟩ := hD
                go_simp
                exact hK _ _ (Grew.refl _) rfl
              · have hG : Grew wr wx := (Grew.drew _).trans hR
                exfalso
                simp [Deps, Dep, at_, Is] at hD
                first | (simp_all; done) | (simp_all [undef]; done)
              refine ⟨fun a_ wx hR hD => ⟨fun hgd K hK => ?_, fun hgd => ?_⟩, ?_⟩
              · have hG : Grew wr wx := (Grew.drew _).trans hR
                clear hgd
                simp [Deps, Dep, at_, Is] at hD
                obtain ⟨hd0, hd1⟩ := hD
                have e_ := CT.out wx hG
                go_simp
                exact hK _ _ (Grew.refl _) rfl
              · have hG : Grew wr wx := (Grew.drew _).trans hR
                exfalso
                simp [Deps, Dep, at_, Is] at hD
                first | (simp_all; done) | (simp_all [undef]; done)
              trivial
            · show EndHold _ _ _ _ _ _ _
              refine end_all (xs := [_, _, _, _, _, _, _, _, _, _, _, _, _, _, _, _, _, _]) ⟨rfl, rfl, rfl, rfl, rfl, rfl, rfl, rfl, rfl, rfl, rfl, rfl, rfl, rfl, rfl, rfl, rfl, rfl, trivial⟩ ?_
              rintro w5 hR1 -
              refine ⟨?_⟩
              have hG_w5 : Grew wr w5 := (Grew.drew _).trans hR1
              clear hR1
              simp only [Act.put, List.setIfInBounds_toArray, List.set_cons_succ, List.set_cons_zero, dropN, putEach]
              go_wp2_with fail
              go_roundw
              case rel => exact ⟨i + 1, by go_num, by omega, by rw [dueT_same N l i _ HX.out HSK.out]; exact HI.out.grew hG_w5, by rw [dueO_skip N l i _ HX.out HSK.out]; exact pw_own_below HO.out hG_w5, HU.out.trans (Upd.of_grew hG_w5)⟩
              case measure => simp [intOf]; omega
          · have d4 : decide (N - t < 4) = false := decide_eq_false h4
            have hsk : skipX N ⟨⟨f0, f1, f2, f3, f4⟩, true, t, false⟩ = false := by unfold skipX; rw [d4]; rfl
            have HSK := Lib.hid hsk
            clear hsk h4
            go_wp2_with fail
            apply region_grew [Is _, Is _, Is _, Is _, Is _, Is _, Is _, Is _, Is _, Is _, Is _, Is _, Is _, Is _, Is _, Is _, Is _, Is _] [([(7, none)], none), ([(35, some 0)], none), ([(36, some 1)], none), ([(37, some 2)], none), ([(38, some 3)], none), ([(7, none), (39, some 4)], some (39, false)), ([(40, some 5), (39, some 4)], some (39, false)), ([(41, some 6), (39, some 4)], some (39, false)), ([(42, some 7), (39, some 4)], some (39, false)), ([(43, some 8), (39, some 4)], some (39, false)), ([(0, none), (44, some 9)], some (44, true)), ([(45, some 10), (44, some 9)], some (44, true)), ([(46, some 11), (44, some 9)], some (44, true)), ([(47, some 12), (44, some 9)], some (44, true)), ([(7, none), (44, some 9)], some (44, true)), ([(49, some 14), (44, some 9)], some (44, true)), ([(50, some 15), (44, some 9)], some (44, true)), ([(51, some 16), (44, some 9)], some (44, true))] [(35, 0), (36, 1), (37, 2), (38, 3), (39, 4), (40, 5), (41, 6), (42, 7), (43, 8), (44, 9), (45, 10), (46, 11), (47, 12), (48, 13), (49, 14), (50, 15), (51, 16), (52, 17)] rfl (by kernel_rfl) (by kernel_rfl) (show Stable Grew _ from ⟨Is.stable _, Is.stable _, Is.stable _, Is.stable _, Is.stable _, Is.stable _, Is.stable _, Is.stable _, Is.stable _, Is.stable _, Is.stable _, Is.stable _, Is.stable _, Is.stable _, Is.stable _, Is.stable _, Is.stable _, Is.stable _, trivial⟩)
            · show OpsHold _ _ _ _ _ _ _ _ _
              refine ⟨fun a_ wx hR hD K hK => ?_, ?_⟩
              · have hG : Grew wr wx := (Grew.drew _).trans hR
                simp [Deps, Dep, at_, Is] at hD
                go_simp
                exact hK _ _ (Grew.refl _) rfl
              refine ⟨fun a_ wx hR hD K hK => ?_, ?_⟩
              · have hG : Grew wr wx := (Grew.drew _).trans hR
                simp [Deps, Dep, at_, Is] at hD
                go_simp
                exact hK _ _ (Grew.refl _) rfl
              refine ⟨fun a_ wx hR hD K hK => ?_, ?_⟩
              · have hG : Grew wr wx := (Grew.drew _).trans hR
                simp [Deps, Dep, at_, Is] at hD
                go_simp
                exact hK _ _ (Grew.refl _) rfl
              refine ⟨fun a_ wx hR hD K hK => ?_, ?_⟩
              · have hG : Grew wr wx := (Grew.drew _).trans hR
                simp [Deps, Dep, at_, Is] at hD
                have e_ := CA.out wx hG
                go_simp
                exact hK _ _ (Grew.refl _) rfl
              refine ⟨fun a_ wx hR hD K hK => ?_, ?_⟩
              · have hG : Grew wr wx := (Grew.drew _).trans hR
                simp [Deps, Dep, at_, Is] at hD
                go_simp
                exact hK _ _ (Grew.refl _) rfl
              refine ⟨fun a_ wx hR hD => ⟨fun hgd K hK => ?_, fun hgd => ?_⟩, ?_⟩
              · have hG : Grew wr wx := (Grew.drew _).trans hR
                clear hgd
                simp [Deps, Dep, at_, Is] at hD
                obtain ⟨hd0, hd1⟩ := hD
                go_simp
                exact hK _ _ (Grew.refl _) rfl
              · have hG : Grew wr wx := (Grew.drew _).trans hR
                exfalso
                simp [Deps, Dep, at_, Is] at hD
                first | (simp_all; done) | (simp_all [undef]; done)
              refine ⟨fun a_ wx hR hD => ⟨fun hgd K hK => ?_, fun hgd => ?_⟩, ?_⟩
              · have hG : Grew wr wx := (Grew.drew _).trans hR
                clear hgd
                simp [Deps, Dep, at_, Is] at hD
                obtain ⟨hd0, hd1⟩ := hD
                go_simp
                exact hK _ _ (Grew.refl _) rfl
              · have hG : Grew wr wx := (Grew.drew _).trans hR
                exfalso
                simp [Deps, Dep, at_, Is] at hD
                first | (simp_all; done) | (simp_all [undef]; done)
              refine ⟨fun a_ wx hR hD => ⟨fun hgd K hK => ?_, fun hgd => ?_⟩, ?_⟩
              · have hG : Grew wr wx := (Grew.drew _).trans hR
                clear hgd
                simp [Deps, Dep, at_, Is] at hD
                obtain ⟨hd0, hd1⟩ := hD
                go_simp
                exact hK _ _ (Grew.refl _) rfl
              · have hG : Grew wr wx := (Grew.drew _).trans hR
                exfalso
                simp [Deps, Dep, at_, Is] at hD
                first | (simp_all; done) | (simp_all [undef]; done)
              refine ⟨fun a_ wx hR hD => ⟨fun hgd K hK => ?_, fun hgd => ?_⟩, ?_⟩
              · have hG : Grew wr wx := (Grew.drew _).trans hR
                clear hgd
                simp [Deps, Dep, at_, Is] at hD
                obtain ⟨hd0, hd1⟩ := hD
                have e_ := CS.out wx hG
                go_simp
                exact hK _ _ (Grew.refl _) rfl
              · have hG : Grew wr wx := (Grew.drew _).trans hR
                exfalso
                simp [Deps, Dep, at_, Is] at hD
                first | (simp_all; done) | (simp_all [undef]; done)
              refine ⟨fun a_ wx hR hD => ⟨fun hgd K hK => ?_, fun hgd => ?_⟩, ?_⟩
              · have hG : Grew wr wx := (Grew.drew _).trans hR
                clear hgd
                simp [Deps, Dep, at_, Is] at hD
                obtain ⟨hd0, hd1⟩ := hD
                go_simp
                exact hK _ _ (Grew.refl _) rfl
              · have hG : Grew wr wx := (Grew.drew _).trans hR
                exfalso
                simp [Deps, Dep, at_, Is] at hD
                first | (simp_all; done) | (simp_all [undef]; done)
              refine ⟨fun a_ wx hR hD => ⟨fun hgd K hK => ?_, fun hgd => ?_⟩, ?_⟩
              · have hG : Grew wr wx := (Grew.drew _).trans hR
                clear hgd
                simp [Deps, Dep, at_, Is] at hD
                obtain ⟨hd0, hd1⟩ := hD
                go_simp
                exact hK _ _ (Grew.refl _) rfl
              · have hG : Grew wr wx := (Grew.drew _).trans hR
                exfalso
                simp [Deps, Dep, at_, Is] at hD
                first | (simp_all; done) | (simp_all [undef]; done)
              refine ⟨fun a_ wx hR hD => ⟨fun hgd K hK => ?_, fun hgd => ?_⟩, ?_⟩
              · have hG : Grew wr wx := (Grew.drew _).trans hR
                clear hgd
                simp [Deps, Dep, at_, Is] at hD
                obtain ⟨hd0, hd1⟩ := hD
                go_simp
                exact hK _ _ (Grew.refl _) rfl
              · have hG : Grew wr wx := (Grew.drew _).trans hR
                exfalso
                simp [Deps, Dep, at_, Is] at hD
                first | (simp_all; done) | (simp_all [undef]; done)
              refine ⟨fun a_ wx hR hD => ⟨fun hgd K hK => ?_, fun hgd => ?_⟩, ?_⟩
              · have hG : Grew wr wx := (Grew.drew _).trans hR
                clear hgd
                simp [Deps, Dep, at_, Is] at hD
                obtain ⟨hd0, hd1⟩ := hD
                go_simp
                exact hK _ _ (Grew.refl _) rfl
              · have hG : Grew wr wx := (Grew.drew _).trans hR
                exfalso
                simp [Deps, Dep, at_, Is] at hD
                first | (simp_all; done) | (simp_all [undef]; done)
              refine ⟨fun a_ wx hR hD => ⟨fun hgd K hK => ?_, fun hgd => ?_⟩, ?_⟩
              · have hG : Grew wr wx := (Grew.drew _).trans hR
                clear hgd
                simp [Deps, Dep, at_, Is] at hD
                obtain ⟨hd0, hd1⟩ := hD
                have e_ := CN.out wx hG
                go_simp
                exact hK _ _ (Grew.refl _) rfl
              · have hG : Grew wr wx := (Grew.drew _).trans hR
                exfalso
                simp [Deps, Dep, at_, Is] at hD
                first | (simp_all; done) | (simp_all [undef]; done)
              refine ⟨fun a_ wx hR hD => ⟨fun hgd K hK => ?_, fun hgd => ?_⟩, ?_⟩
              · have hG : Grew wr wx := (Grew.drew _).trans hR
                clear hgd
                simp [Deps, Dep, at_, Is] at hD
                obtain ⟨hd0, hd1⟩ := hD
                go_simp
                exact hK _ _ (Grew.refl _) rfl
              · have hG : Grew wr wx := (Grew.drew _).trans hR
                exfalso
                simp [Deps, Dep, at_, Is] at hD
                first | (simp_all; done) | (simp_all [undef]; done)
              refine ⟨fun a_ wx hR hD => ⟨fun hgd K hK => ?_, fun hgd => ?_⟩, ?_⟩
              · have hG : Grew wr wx := (Grew.drew _).trans hR
                clear hgd
                simp [Deps, Dep, at_, Is] at hD
                obtain ⟨hd0, hd1⟩ := hD
                go_simp
                exact hK _ _ (Grew.refl _) rfl
              · have hG : Grew wr wx := (Grew.drew _).trans hR
                exfalso
                simp [Deps, Dep, at_, Is] at hD
                first | (simp_all; done) | (simp_all [undef]; done)
              refine ⟨fun a_ wx hR hD => ⟨fun hgd K hK => ?_, fun hgd => ?_⟩, ?_⟩
              · have hG : Grew wr wx := (Grew.drew _).trans hR
                clear hgd
                simp [Deps, Dep, at_, Is] at hD
                obtain ⟨hd0, hd1⟩ := hD
                go_simp
                exact hK _ _ (Grew.refl _) rfl
              · have hG : Grew wr wx := (Grew.drew _).trans hR
                exfalso
                simp [Deps, Dep, at_, Is] at hD
                first | (simp_all; done) | (simp_all [undef]; done)
              refine ⟨fun a_ wx hR hD => ⟨fun hgd K hK => ?_, fun hgd => ?_⟩, ?_⟩
              · have hG : Grew wr wx := (Grew.drew _).trans hR
                clear hgd
                simp [Deps, Dep, at_, Is] at hD
                obtain ⟨hd0, hd1⟩ := hD
                have e_ := CT.out wx hG
                go_simp
                exact hK _ _ (Grew.refl _) rfl
              · have hG : Grew wr wx := (Grew.drew _).trans hR
                exfalso
                simp [Deps, Dep, at_, Is] at hD
                first | (simp_all; done) | (simp_all [undef]; done)
              trivial
            · show EndHold _ _ _ _ _ _ _
              refine end_all (xs := [_, _, _, _, _, _, _, _, _, _, _, _, _, _, _, _, _, _]) ⟨rfl, rfl, rfl, rfl, rfl, rfl, rfl, rfl, rfl, rfl, rfl, rfl, rfl, rfl, rfl, rfl, rfl, rfl, trivial⟩ ?_
              rintro w5 hR1 -
              refine ⟨?_⟩
              have hG_w5 : Grew wr w5 := (Grew.drew _).trans hR1
              clear hR1
              simp only [Act.put, List.setIfInBounds_toArray, List.set_cons_succ, List.set_cons_zero, dropN, putEach]
              clear hw
              have hI5 := HI.out.grew hG_w5
              have ho5 := pw_own_below HO.out hG_w5
              have hu5 := HU.out.trans (Upd.of_grew (S := sndS g (.slice (some ⟨g1, o, none⟩) k cc)) hG_w5)
              have c5 := pw_cell_below hG_w5 (HCELL.out 5 (by omega))
              have c6 := pw_cell_below hG_w5 (HCELL.out 6 (by omega))
              have c0 := pw_cell_below hG_w5 (HCELL.out 0 (by omega))
              have c1 := pw_cell_below hG_w5 (HCELL.out 1 (by omega))
              have c2 := pw_cell_below hG_w5 (HCELL.out 2 (by omega))
              have c3 := pw_cell_below hG_w5 (HCELL.out 3 (by omega))
              have c4 := pw_cell_below hG_w5 (HCELL.out 4 (by omega))
              have c9 := CN.out w5 hG_w5
              simp only [sdc1, List.getElem?_cons_zero, List.getElem?_cons_succ, Nat.add_zero] at c5 c6 c0 c1 c2 c3 c4
              have z5 : w5.frozen? ⟨g1, o + i * 8 + 5, none⟩ = false := (hG_w5.frozen (p := ⟨g1, o + i * 8 + 5, none⟩) hg1).trans (HF.out _)
              have z6 : w5.frozen? ⟨g1, o + i * 8 + 6, none⟩ = false := (hG_w5.frozen (p := ⟨g1, o + i * 8 + 6, none⟩) hg1).trans (HF.out _)
              obtain ⟨W6, hW6⟩ : ∃ W6, W6 = (w5.setCell ⟨g1, o + i * 8 + 5, none⟩ (.bool true)).setCell ⟨g1, o + i * 8 + 6, none⟩ (.int .i64 N) := ⟨_, rfl⟩
              have hs6 : Upd (fun j => j = g1) w5 W6 := by
                rw [hW6]
                exact Upd.set (S := fun j => j = g1) (p := ⟨g1, o + i * 8 + 6, none⟩) (Upd.set (S := fun j => j = g1) (p := ⟨g1, o + i * 8 + 5, none⟩) (Upd.refl _ _) (.inl rfl) _) (.inl rfl) _
              have hrow6 : RowO W6 B 86 8 (.slice (some ⟨g1, o, none⟩) k cc) k (sdc ((dueT N l i).set i ⟨⟨f0, f1, f2, f3, f4⟩, true, N, false⟩)) := by
                have h := hI5.row
                rw [dueT_len, ← HK.out] at h
                have h := (h.set rfl (i * 8 + 5) (by omega) (.bool true)).set rfl (i * 8 + 6) (by omega) (.int .i64 N)
                rw [sdc_set _ i _ true N HAT.out, ← Nat.add_assoc, ← Nat.add_assoc, ← hW6] at h
                exact h
              have hne1 := hI5.ne
              have hI6 : SndM B g (.slice (some ⟨g1, o, none⟩) k cc) (dueT N l (i + 1)) f N W6 := by
                refine ⟨hI5.cells.upd hs6 (fun e => hne1 (by rw [e]; rfl)), ?_, hI5.hg⟩
                rw [dueT_len, ← HK.out, dueT_succ N l i _ HX.out]
                have e : dueX N ⟨⟨f0, f1, f2, f3, f4⟩, true, t, false⟩ = ⟨⟨f0, f1, f2, f3, f4⟩, true, N, false⟩ := by unfold dueX; rw [HSK.out]; rfl
                rw [e]
                exact hrow6
              have hu6 := hu5.trans (hs6.mono fun j _ e => .inr (by rw [e]; rfl))
              have ho6 := hs6.own ho5 (fun j hj e => hI5.ne_own ho5 j (.inr (by rw [e]; rfl)) hj)
              obtain ⟨Ao, co, rfl⟩ := own_slice ho5
              have hz6 : W6.heap.size = w5.heap.size := by rw [hW6]; simp
              have hgr7 : Grew W6 (W6.alloc (.cells (pkc ⟨f0, f1, f2, f3, f4⟩).toArray 30)) := Grew.alloc _ _
              obtain ⟨v8, w8, hrun, hown8, hgr8, -⟩ := app_cells (P := Try.prog) (W6.alloc (.cells (pkc ⟨f0, f1, f2, f3, f4⟩).toArray 30)) w.heap.size 53 30 53 (.agg #[.bool false, .int .i64 0, .bool false, .string ⟨#[]⟩, .int .i64 0]) 5 48 Try.underlying53 infoPk rfl (by decide) (by decide) (.slice Ao (dueO N l i).length co) (dueO N l i).length (pks (dueO N l i)) W6.heap.size (pkc ⟨f0, f1, f2, f3, f4⟩) rfl (by intro u hu; simp [pkc] at hu; rcases hu with rfl | rfl | rfl | rfl | rfl <;> rfl) (pw_own_below ho6 hgr7) (Blk.new _ _ _) (Nat.le_trans hu6.size hgr7.size) (by have := hlen.out; omega)
              rw [hz6, hW6] at hrun
              have hI7 := hI6.grew hgr7
              have hI8 := hI7.far (Upd.of_grown hgr8) (fun j hj => hI7.ne_own (pw_own_below ho6 hgr7) j hj)
              have hu8 := (hu6.trans (Upd.of_grew (S := sndS g (.slice (some ⟨g1, o, none⟩) k cc)) hgr7)).grown hgr8 (fun j hj => .inr (own_base ho6 j hj))
              have HI8 := Lib.hid hI8
              have HU8 := Lib.hid hu8
              have HO8 := Lib.hid hown8
              have HRUN := Lib.hid hrun
              clear hI5 ho5 hu5 hs6 hrow6 hne1 hI6 hu6 ho6 hW6 hG_w5 hI7 hI8 hu8 hown8 hrun hgr8 hgr7 hz6
              go_wp2_with (at_builtin; refine wpList_app (by rfl) (.tmp 67) (.tmp 72) 53 (by rfl) (by rfl) (by rfl) HRUN.out ?_)
              go_roundw
              case rel => exact ⟨i + 1, by go_num, by omega, HI8.out, by rw [dueO_take N l i _ HX.out HSK.out, List.length_append, pks_snoc]; exact HO8.out, HU8.out⟩
              case measure => simp [intOf]; omega
    · obtain rfl : i = M := by omega
      have e1 : decide ((i : Int) < (i : Int)) = false := decide_eq_false (by omega)
      have HI := Lib.hid hI
      have HO := Lib.hid ho
      clear hI ho
      go_wp2_with fail
      go_ret
      exact ⟨_, rfl, HO.out, HI.out, hu⟩
end Go.Proofs.Yteaefambkagpbaa.F

-- LnkL
namespace Go.Proofs.Yteaefambkagpbaa.F
open Go Go.RowKit Go.Proofs.YteaefambkagpbaaW.PrintWords Go.Proofs.YteaefambkagpbaaW.PrintLast Go.Proofs.YteaefambkagpbaaW.PrintMore Go.Proofs.YteaefambkagpbaaM Go.Proofs.YteaefambkagpbaaR
attribute [local go_sem] max2_int min2_int max_two min_two
set_option linter.unusedSimpArgs false
set_option linter.unusedVariables false
set_option maxRecDepth 100000
theorem cutP_201 (m : ByteArray) (h : m.size = 201) : cutP m = [⟨false, 0, false, m.extract 0 200, 0⟩, ⟨false, 0, true, m.extract 200 201, 0⟩] := by
  unfold cutP
  rw [h, cutN, if_pos (by omega), h, cutN, if_neg (by rw [ByteArray.size_extract]; omega)]
set_option maxHeartbeats 4000000 in
theorem lives_c (w : World) : Calls Try.prog 7 #[] w (Tells w (Is (.bool true))) := by
  obtain ⟨Z, hZ⟩ : ∃ Z, Z = strOfNums (List.replicate 201 0) := ⟨_, rfl⟩
  have hz : Z.size = 201 := by rw [hZ, str_size, List.length_replicate]
  have hcut := cutP_201 Z hz
  obtain ⟨e0, he0⟩ : ∃ e0, e0 = Z.extract 0 200 := ⟨_, rfl⟩
  obtain ⟨e1, he1⟩ : ∃ e1, e1 = Z.extract 200 201 := ⟨_, rfl⟩
  have hs0 : e0.size = 200 := by rw [he0, ByteArray.size_extract]; omega
  have hs1 : e1.size = 1 := by rw [he1, ByteArray.size_extract]; omega
  rw [← he0, ← he1] at hcut
  have HPUT := Lib.hid (fun (w : World) (B g : Nat) (v : Value) (hS : SndM B g v [] 0 0 w) (hB : B ≤ w.heap.size) => sput_c w B g v [] 0 0 hS Z (by omega) (by rw [hcut]; simp) (by decide) (by decide) hB)
  rw [hcut] at HPUT
  have hfr : ([] : List S86) ++ fresh (0 + (([] : List S86).length : Int)) [⟨false, 0, false, e0, 0⟩, ⟨false, 0, true, e1, 0⟩] = [⟨⟨false, 0, false, e0, 0⟩, false, 0, false⟩, ⟨⟨false, 1, true, e1, 0⟩, false, 0, false⟩] := rfl
  rw [hfr] at HPUT
  have HDUE := Lib.hid (fun (w : World) (B g : Nat) (v : Value) (hS : SndM B g v [⟨⟨false, 0, false, e0, 0⟩, false, 0, false⟩, ⟨⟨false, 1, true, e1, 0⟩, false, 0, false⟩] 0 0 w) => due_c w B g v _ 0 0 0 0 hS (by decide) (by decide) (by decide) (by intro x hx; simp at hx; rcases hx with rfl | rfl <;> exact ⟨by simp, by simp⟩) (by simp))
  have hdo : dueO 0 [⟨⟨false, 0, false, e0, 0⟩, false, 0, false⟩, ⟨⟨false, 1, true, e1, 0⟩, false, 0, false⟩] 8 = [⟨false, 0, false, e0, 0⟩, ⟨false, 1, true, e1, 0⟩] := rfl
  rw [hdo] at HDUE
  have HZ := Lib.hid hZ
  have HS0 := Lib.hid hs0
  have HS1 := Lib.hid hs1
  clear hcut he0 he1 hfr hdo hZ hz hs0 hs1
  go_enter Try.func7, Try.ntmps7
  go_wp2_with fail
  refine (snew_c w).mono ?_
  rintro e w1 ⟨_, rfl, ⟨g, r, rfl, hS⟩, hg1⟩
  have hmk := print_make (P := Try.prog) 24 5 .u8 1 Try.underlying24 info5 (by decide) 201 (by omega)
  rw [show ((201 : Nat) : Int) = 201 from rfl] at hmk
  have hst := own_string (P := Try.prog) Try.underlying24 Try.underlying5 Try.underlying9 (own_made w1 w1.heap.size 5 .u8 201 (Nat.le_refl _) (by omega))
  rw [← HZ.out] at hst
  go_wp2_with fail
  clear hmk hst
  refine (HPUT.out _ w.heap.size g r (hS.grew (Grew.alloc _ _)) (by have := hg1.size; simp; omega)).mono ?_
  rintro e w2 ⟨v2, rfl, hS2, hu2, -⟩
  have hS' := hS
  have hg2 : Grew w w2 := (((Upd.of_grew (S := sndS g r) hg1).trans (Upd.of_grew (Grew.alloc w1 _))).trans hu2).grew (fun i hi h => by
    rcases h with rfl | h
    · have := hS'.hg; omega
    · have := hS'.row.base_ i h; omega)
  go_wp2_with fail
  refine (HDUE.out w2 w.heap.size g v2 hS2).mono ?_
  rintro e w3 ⟨vo, rfl, ho, hS3, hu3⟩
  have hg3 : Grew w w3 := ((Upd.of_grew (S := sndS g v2) hg2).trans hu3).grew (fun i hi h => by
    rcases h with rfl | h
    · have := hS'.hg; omega
    · have := hS2.row.base_ i h; omega)
  have hS3' := hS3.row
  obtain ⟨gq, o, cap, rfl, hc2, -, -, hcell, -⟩ := (rowO_of_own ho).at_ (by simp)
  have c3 := hcell 3 (by simp)
  have c2 := hcell 2 (by simp)
  have c8 := hcell 8 (by simp)
  have c7 := hcell 7 (by simp)
  simp [pks, pkc] at c3 c2 c8 c7
  have HS3 := Lib.hid (fun wx (h : Grew w3 wx) => wait_c wx w.heap.size g v2 _ 0 0 (hS3.grew h))
  simp only [dueT_len, List.length_cons, List.length_nil] at HS3
  have hs0 := HS0.out
  have hs1 := HS1.out
  clear hcell ho hS3 hS3' hS2 hS hS' hc2
  go_wp2_with fail
  refine (HS3.out w3 (Grew.refl _)).mono ?_
  rintro e w4 ⟨_, rfl, rfl, hg4⟩
  go_wp2_with fail
  go_ret
  exact ⟨_, rfl, rfl, Grew.trans hg3 hg4⟩
end Go.Proofs.Yteaefambkagpbaa.F

-- F29
namespace Go.Proofs.Yteaefambkagpbaa.F
open Go.RowKit Go.Proofs.YteaefambkagpbaaW.PrintWords Go.Proofs.YteaefambkagpbaaW.PrintLast Go.Proofs.YteaefambkagpbaaW.PrintMore
attribute [local go_sem] max2_int min2_int max_two min_two max_three min_three max_four min_four   -- for this text's walks alone
set_option linter.unusedVariables false
set_option linter.unusedSimpArgs false

/-! ### strongroomlaw26_message: function 29 -/
mutual
def strongroomlaw26_message.j0 : Nat → Int → Bool → Int → Int → Int → Int → Int → Bool → Int → Bool → ByteArray → Int → Option (ByteArray)
  | 0, _, _, _, _, _, _, _, _, _, _, _, _ => none
  | k + 1, x3, x13, x199000, x199001, x199002, x199003, x199004, x199005, x199006, x199007, x199008, x199009 => if x13 = true then (strongroomlaw26_message.j1 k 0 x199000 x199001 x199002 x199003 x199004 x199005 x199006 x199007 x199008 x199009) else (strongroomlaw26_message.j1 k x3 x199000 x199001 x199002 x199003 x199004 x199005 x199006 x199007 x199008 x199009)
def strongroomlaw26_message.j1 : Nat → Int → Int → Int → Int → Int → Int → Bool → Int → Bool → ByteArray → Int → Option (ByteArray)
  | 0, _, _, _, _, _, _, _, _, _, _, _ => none
  | k + 1, x3, x199000, x199001, x199002, x199003, x199004, x199005, x199006, x199007, x199008, x199009 => if 0 ≤ x3 then (if (x3 : Int).toNat ≤ 281474976710656 then (strongroomlaw26_message.l0 k x3 (List.replicate (x3 : Int).toNat 0) 0 x199000 x199001 x199002 x199003 x199004 x199005 x199006 x199007 x199008 x199009) else (none)) else (none)
def strongroomlaw26_message.l0 : Nat → Int → List Int → Int → Int → Int → Int → Int → Int → Bool → Int → Bool → ByteArray → Int → Option (ByteArray)
  | 0, _, _, _, _, _, _, _, _, _, _, _, _, _ => none
  | k + 1, x3, x4, x5, x199000, x199001, x199002, x199003, x199004, x199005, x199006, x199007, x199008, x199009 => if x5 < x3 then (if 0 ≤ x5 then (if x5 < (x4.length : Int) then (strongroomlaw26_message.l0 k x3 (x4.set (x5 : Int).toNat x199004) (wrap64 (x5 + 1)) x199000 x199001 x199002 x199003 x199004 x199005 x199006 x199007 x199008 x199009) else (none)) else (none)) else (some (strOfNums x4))
end
def strongroomlaw26_message.f (k : Nat) (a0_0 : Int) (a0_1 : Int) (a0_2 : Int) (a0_3 : Int) (a0_4 : Int) (a0_5 : Bool) (a0_6 : Int) (a0_7 : Bool) (a0_8 : ByteArray) (a0_9 : Int) : Option (ByteArray) := if a0_1 < 0 then (strongroomlaw26_message.j0 k a0_1 true a0_0 a0_1 a0_2 a0_3 a0_4 a0_5 a0_6 a0_7 a0_8 a0_9) else (strongroomlaw26_message.j0 k a0_1 (decide (a0_1 > 5000)) a0_0 a0_1 a0_2 a0_3 a0_4 a0_5 a0_6 a0_7 a0_8 a0_9)
set_option maxHeartbeats 8000000 in
set_option maxRecDepth 100000 in
theorem strongroomlaw26_message.calls (k : Nat) (a0_0 : Int) (a0_1 : Int) (a0_2 : Int) (a0_3 : Int) (a0_4 : Int) (a0_5 : Bool) (a0_6 : Int) (a0_7 : Bool) (a0_8 : ByteArray) (a0_9 : Int) (r : ByteArray) (w : World) (h : strongroomlaw26_message.f k a0_0 a0_1 a0_2 a0_3 a0_4 a0_5 a0_6 a0_7 a0_8 a0_9 = some r) :
    Calls Try.prog 29 #[.agg #[.int .i64 a0_0, .int .i64 a0_1, .int .i64 a0_2, .int .i64 a0_3, .int .u8 a0_4, .bool a0_5, .int .i64 a0_6, .bool a0_7, .string a0_8, .int .i64 a0_9]] w fun e w' => e = .returned (.string r) ∧ Below w.heap.size w w' := by
  have hu59 := Try.underlying59
  have HB := Aside0.mk (Below.refl w.heap.size w)
  have H : (if a0_1 < 0 then (strongroomlaw26_message.j0 k a0_1 true a0_0 a0_1 a0_2 a0_3 a0_4 a0_5 a0_6 a0_7 a0_8 a0_9) else (strongroomlaw26_message.j0 k a0_1 (decide (a0_1 > 5000)) a0_0 a0_1 a0_2 a0_3 a0_4 a0_5 a0_6 a0_7 a0_8 a0_9)) = some r := h
  clear h
  have HC2 := Aside0.mk H
  clear H
  go_enter Try.func29, Try.ntmps29
  go_upto_region 2 with (first | ((with_reducible refine gate_dst (N := 1) rfl ?_); refine box_event ?hg (N := 1) ?hd (cs := #[.int .i64 a0_0, .int .i64 a0_1, .int .i64 a0_2, .int .i64 a0_3, .int .u8 a0_4, .bool a0_5, .int .i64 a0_6, .bool a0_7, .string a0_8, .int .i64 a0_9]) (t := 59) ?hr ?_; (case hd => rfl); (case hg => rfl); (case hr => first | (go_simp; done) | (go_simp; rfl)); intro gb198 hg w3 hbox hb; have n0_ := Aside0.mk (below_step (by repeat (first | (with_reducible first | exact HB.out | apply below_alloc | apply pw_below_drewN | apply below_drew1) | exact HB.out)) hb); have n1_ := Aside0.mk (hbox); have n2_ := Aside0.mk ((by rw [hg]; exact (below_size (by repeat (first | (with_reducible first | exact HB.out | apply below_alloc | apply pw_below_drewN | apply below_drew1) | exact HB.out))) : w.heap.size ≤ gb198)); have n3_ := Aside0.mk ((by rw [hg]; exact (below_size (by repeat (first | (with_reducible first | exact HB.out | apply below_alloc | apply pw_below_drewN | apply below_drew1) | exact HB.out))) : w.heap.size ≤ gb198)); clear HB; have HB := n0_; have BK198 := n1_; have GW198 := n2_; have GE198 := n3_; clear n0_ n1_ n2_ n3_; clear hb hbox hg; have hcz4_0 : w3.cell? ⟨gb198, 0, none⟩ = some (.int .i64 a0_0) := (blk_cell BK198.out 0).trans rfl; have hcz4_1 : w3.cell? ⟨gb198, 1, none⟩ = some (.int .i64 a0_1) := (blk_cell BK198.out 1).trans rfl; have hcz4_2 : w3.cell? ⟨gb198, 2, none⟩ = some (.int .i64 a0_2) := (blk_cell BK198.out 2).trans rfl; have hcz4_3 : w3.cell? ⟨gb198, 3, none⟩ = some (.int .i64 a0_3) := (blk_cell BK198.out 3).trans rfl; have hcz4_4 : w3.cell? ⟨gb198, 4, none⟩ = some (.int .u8 a0_4) := (blk_cell BK198.out 4).trans rfl; have hcz4_5 : w3.cell? ⟨gb198, 5, none⟩ = some (.bool a0_5) := (blk_cell BK198.out 5).trans rfl; have hcz4_6 : w3.cell? ⟨gb198, 6, none⟩ = some (.int .i64 a0_6) := (blk_cell BK198.out 6).trans rfl; have hcz4_7 : w3.cell? ⟨gb198, 7, none⟩ = some (.bool a0_7) := (blk_cell BK198.out 7).trans rfl; have hcz4_8 : w3.cell? ⟨gb198, 8, none⟩ = some (.string a0_8) := (blk_cell BK198.out 8).trans rfl; have hcz4_9 : w3.cell? ⟨gb198, 9, none⟩ = some (.int .i64 a0_9) := (blk_cell BK198.out 9).trans rfl; have hfz4_0 := blk_frozen BK198.out 0; have hfz4_1 := blk_frozen BK198.out 1; have hfz4_2 := blk_frozen BK198.out 2; have hfz4_3 := blk_frozen BK198.out 3; have hfz4_4 := blk_frozen BK198.out 4; have hfz4_5 := blk_frozen BK198.out 5; have hfz4_6 := blk_frozen BK198.out 6; have hfz4_7 := blk_frozen BK198.out 7; have hfz4_8 := blk_frozen BK198.out 8; have hfz4_9 := blk_frozen BK198.out 9))
  (try simp only [Act.put, List.setIfInBounds_toArray, List.set_cons_zero, List.set_cons_succ])
  go_cut [13] (fun v13 wc => ∃ (kq : Nat) (x13_1 : Bool), v13 = .bool x13_1 ∧ Aside0 (strongroomlaw26_message.j0 kq a0_1 x13_1 a0_0 a0_1 a0_2 a0_3 a0_4 a0_5 a0_6 a0_7 a0_8 a0_9 = some r) ∧ Aside0 (kq ≤ k) ∧ Aside0 (wc.heap[gb198]? = some (.cells #[.int .i64 a0_0, .int .i64 a0_1, .int .i64 a0_2, .int .i64 a0_3, .int .u8 a0_4, .bool a0_5, .int .i64 a0_6, .bool a0_7, .string a0_8, .int .i64 a0_9] 59 (0, 0))) ∧ Aside0 (Below w.heap.size w wc))
  case first =>
    have H := HC2.out
    clear HC2
    by_cases c5 : a0_1 < 0
    · rw [if_pos c5] at H
      have c5b0 : decide (a0_1 < 0) = true := decide_eq_true c5
      clear c5
      (first | rw [c5b0] | (simp only [i64_w, i32_w]; rw [c5b0]) | skip)
      have H' := Aside0.mk H
      clear H
      go_wp2
      go_meet
      case rel => exact ⟨_, (true), (by first | rfl | (simp; done) | (simp [*]; done)), H', ⟨by first | omega | exact Nat.le_refl _⟩, ⟨by (with_reducible repeat (first | refine blk_drewN ?_ _ | refine blk_drew ?_ | refine blk_alloc ?_ _)); exact BK198.out⟩, ⟨by repeat (first | (with_reducible first | exact HB.out | apply below_alloc | apply pw_below_drewN | apply below_drew1 | refine below_set ?_ GE198.out) | exact HB.out)⟩⟩
    · rw [if_neg c5] at H
      have c5b0 : decide (a0_1 < 0) = false := decide_eq_false c5
      clear c5
      (first | rw [c5b0] | (simp only [i64_w, i32_w]; rw [c5b0]) | skip)
      have H' := Aside0.mk H
      clear H
      go_wp2
      go_meet
      case rel => exact ⟨_, (decide (a0_1 > 5000)), (by first | rfl | (simp; done) | (simp [*]; done)), H', ⟨by first | omega | exact Nat.le_refl _⟩, ⟨by (with_reducible repeat (first | refine blk_drewN ?_ _ | refine blk_drew ?_ | refine blk_alloc ?_ _)); exact BK198.out⟩, ⟨by repeat (first | (with_reducible first | exact HB.out | apply below_alloc | apply pw_below_drewN | apply below_drew1 | refine below_set ?_ GE198.out) | exact HB.out)⟩⟩
  case rest =>
    clear HC2
    try clear c2
    try clear p2
    try clear c5
    try clear c5b0
    try clear hcz4_0
    try clear hcz4_1
    try clear hcz4_2
    try clear hcz4_3
    try clear hcz4_4
    try clear hcz4_5
    try clear hcz4_6
    try clear hcz4_7
    try clear hcz4_8
    try clear hcz4_9
    try clear hfz4_0
    try clear hfz4_1
    try clear hfz4_2
    try clear hfz4_3
    try clear hfz4_4
    try clear hfz4_5
    try clear hfz4_6
    try clear hfz4_7
    try clear hfz4_8
    try clear hfz4_9
    obtain ⟨kq, x13_1, rfl, HA, HJ1, BK198, HB⟩ := hcut
    cases kq with
    | zero => exact absurd HA.out (by simp [strongroomlaw26_message.j0])
    | succ kj1 =>
      have H := HA.out
      clear HA
      simp only [strongroomlaw26_message.j0] at H
      have HC6 := Aside0.mk H
      clear H
      go_upto_if 13 with (fail)
      go_cut [3] (fun v3 wc => ∃ (kq : Nat) (x3_5 : Int), v3 = .int .i64 x3_5 ∧ Aside0 (strongroomlaw26_message.j1 kq x3_5 a0_0 a0_1 a0_2 a0_3 a0_4 a0_5 a0_6 a0_7 a0_8 a0_9 = some r) ∧ Aside0 (kq ≤ kj1) ∧ Aside0 (wc.heap[gb198]? = some (.cells #[.int .i64 a0_0, .int .i64 a0_1, .int .i64 a0_2, .int .i64 a0_3, .int .u8 a0_4, .bool a0_5, .int .i64 a0_6, .bool a0_7, .string a0_8, .int .i64 a0_9] 59 (0, 0))) ∧ Aside0 (Below w.heap.size w wc))
      case first =>
        have H := HC6.out
        clear HC6
        by_cases c7 : x13_1 = true
        · subst c7
          have H1 : (strongroomlaw26_message.j1 kj1 0 a0_0 a0_1 a0_2 a0_3 a0_4 a0_5 a0_6 a0_7 a0_8 a0_9) = some r := by rw [if_pos rfl] at H; exact H
          clear H
          have H := H1
          clear H1
          have H' := Aside0.mk H
          clear H
          go_wp2
          go_meet
          case rel => exact ⟨_, (0), (by first | rfl | (simp; done) | (simp [*]; done)), H', ⟨by have := HJ1.out; first | omega | exact Nat.le_refl _⟩, ⟨by (with_reducible repeat (first | refine blk_drewN ?_ _ | refine blk_drew ?_ | refine blk_alloc ?_ _)); exact BK198.out⟩, ⟨by repeat (first | (with_reducible first | exact HB.out | apply below_alloc | apply pw_below_drewN | apply below_drew1 | refine below_set ?_ GE198.out) | exact HB.out)⟩⟩
        · replace c7 := Bool.eq_false_iff.mpr c7
          subst c7
          have H1 : (strongroomlaw26_message.j1 kj1 a0_1 a0_0 a0_1 a0_2 a0_3 a0_4 a0_5 a0_6 a0_7 a0_8 a0_9) = some r := by rw [if_neg (show ¬ (false = true) by decide)] at H; exact H
          clear H
          have H := H1
          clear H1
          have H' := Aside0.mk H
          clear H
          go_wp2
          go_meet
          case rel => exact ⟨_, (a0_1), (by first | rfl | (simp; done) | (simp [*]; done)), H', ⟨by have := HJ1.out; first | omega | exact Nat.le_refl _⟩, ⟨by (with_reducible repeat (first | refine blk_drewN ?_ _ | refine blk_drew ?_ | refine blk_alloc ?_ _)); exact BK198.out⟩, ⟨by repeat (first | (with_reducible first | exact HB.out | apply below_alloc | apply pw_below_drewN | apply below_drew1 | refine below_set ?_ GE198.out) | exact HB.out)⟩⟩
      case rest =>
        clear HC6
        try clear c2
        try clear p2
        try clear c5
        try clear c5b0
        try clear c7
        try clear hcz4_0
        try clear hcz4_1
        try clear hcz4_2
        try clear hcz4_3
        try clear hcz4_4
        try clear hcz4_5
        try clear hcz4_6
        try clear hcz4_7
        try clear hcz4_8
        try clear hcz4_9
        try clear hfz4_0
        try clear hfz4_1
        try clear hfz4_2
        try clear hfz4_3
        try clear hfz4_4
        try clear hfz4_5
        try clear hfz4_6
        try clear hfz4_7
        try clear hfz4_8
        try clear hfz4_9
        try clear p2
        obtain ⟨kq, x3_5, rfl, HA, HJ5, BK198, HB⟩ := hcut
        cases kq with
        | zero => exact absurd HA.out (by simp [strongroomlaw26_message.j1])
        | succ kj5 =>
          have H := HA.out
          clear HA
          simp only [strongroomlaw26_message.j1] at H
          by_cases c8 : 0 ≤ x3_5
          · rw [if_pos c8] at H
            have c8b0 := eq_true c8
            have c8b1 : decide (0 ≤ x3_5) = true := decide_eq_true c8
            clear c8
            by_cases c9 : (x3_5 : Int).toNat ≤ 281474976710656
            · rw [if_pos c9] at H
              have c9b0 := eq_true c9
              have c9b1 : decide ((x3_5 : Int).toNat ≤ 281474976710656) = true := decide_eq_true c9
              clear c9
              obtain ⟨y199, hy199⟩ : ∃ y_ : List Int, y_ = (List.replicate (x3_5 : Int).toNat 0) := ⟨_, rfl⟩
              replace H : (strongroomlaw26_message.l0 kj5 x3_5 y199 0 a0_0 a0_1 a0_2 a0_3 a0_4 a0_5 a0_6 a0_7 a0_8 a0_9) = some r := by first | (rw [hy199]; with_reducible exact H) | (have H2_ := (Option.bind_some _ _).symm.trans H; rw [hy199]; with_reducible exact H2_) | (have H2_ := (Option.bind_some _ _).symm.trans H; with_reducible exact H2_) | with_reducible exact H | (rw [hy199]; exact H) | exact H
              have Ny199 := Aside0.mk hy199
              clear hy199
              have H' := Aside0.mk H
              clear H
              go_wp2_with (first | ((with_reducible refine gate_dst (N := 15) rfl ?_); refine Kd.R_make (Kd.int .u8) _ 5 rfl (N := 15) rfl 24 _ _ rfl x3_5 rfl rfl Try.underlying24 (.int .u8 0) 1 info5 rfl (by decide) (by omega) 0 (ok := fun _ => True) (okp := fun _ => True) rfl (fun _ hk => hk) trivial (of_decide_eq_true (by first | (with_reducible assumption) | assumption)) (Nat.le_trans (Nat.mul_le_mul_right _ (of_decide_eq_true (by first | (with_reducible assumption) | assumption) : x3_5.toNat ≤ 281474976710656)) (by omega)) (Below.refl _ _) (Nat.le_refl _) ?_; intro v200 w10 ho11 hb hg_ hnew_; clear hg_ hnew_; (first | rw [← Ny199.out] at ho11 | (simp only [Int.reduceToNat] at ho11; rw [← Ny199.out] at ho11)); have n0_ := Aside0.mk (Kd.R_lower ho11 (below_size (by repeat (first | (with_reducible first | exact HB.out | apply below_alloc | apply pw_below_drewN | apply below_drew1 | refine below_set ?_ GE198.out) | exact HB.out)))); have n1_ := Aside0.mk (blk_below (g := gb198) (o := .cells #[.int .i64 a0_0, .int .i64 a0_1, .int .i64 a0_2, .int .i64 a0_3, .int .u8 a0_4, .bool a0_5, .int .i64 a0_6, .bool a0_7, .string a0_8, .int .i64 a0_9] 59 (0, 0)) (by (with_reducible repeat (first | refine blk_drewN ?_ _ | refine blk_drew ?_ | refine blk_alloc ?_ _)); exact BK198.out) hb); have n2_ := Aside0.mk (below_step (by repeat (first | (with_reducible first | exact HB.out | apply below_alloc | apply pw_below_drewN | apply below_drew1 | refine below_set ?_ GE198.out) | exact HB.out)) hb); clear BK198; clear HB; have HO201 := n0_; have BK198 := n1_; have HB := n2_; clear n0_ n1_ n2_; clear hb ho11))
              go_loopg [5] kj5 (fun kq v5 w' => ∃ (x4_3 : List Int) (x5_3 : Int), v5 = .int .i64 x5_3 ∧ Aside0 (strongroomlaw26_message.l0 kq x3_5 x4_3 x5_3 a0_0 a0_1 a0_2 a0_3 a0_4 a0_5 a0_6 a0_7 a0_8 a0_9 = some r) ∧ Aside0 (kq ≤ kj5) ∧ Aside0 (Kd.R (Kd.int .u8) 5 w' w.heap.size (fun _ => True) v200 x4_3) ∧ Aside0 (w'.heap[gb198]? = some (.cells #[.int .i64 a0_0, .int .i64 a0_1, .int .i64 a0_2, .int .i64 a0_3, .int .u8 a0_4, .bool a0_5, .int .i64 a0_6, .bool a0_7, .string a0_8, .int .i64 a0_9] 59 (0, 0))) ∧ Aside0 (Below w.heap.size w w'))
              case atStart => exact ⟨(y199), (0), (by first | rfl | (simp; done) | (simp [*]; done)), H', ⟨Nat.le_refl _⟩, ⟨by (with_reducible repeat (first | apply Kd.R_alloc | apply Kd.R_drewN | apply Kd.R_drew)); exact HO201.out⟩, ⟨by (with_reducible repeat (first | refine blk_drewN ?_ _ | refine blk_drew ?_ | refine blk_alloc ?_ _)); exact BK198.out⟩, ⟨by repeat (first | (with_reducible first | exact HB.out | apply below_alloc | apply pw_below_drewN | apply below_drew1 | refine below_set ?_ GE198.out) | exact HB.out)⟩⟩
              case round =>
                clear H'
                try clear c2
                try clear p2
                try clear c5
                try clear c5b0
                try clear c7
                try clear c8
                try clear c8b0
                try clear c8b1
                try clear c9
                try clear c9b0
                try clear c9b1
                try clear hcz4_0
                try clear hcz4_1
                try clear hcz4_2
                try clear hcz4_3
                try clear hcz4_4
                try clear hcz4_5
                try clear hcz4_6
                try clear hcz4_7
                try clear hcz4_8
                try clear hcz4_9
                try clear hfz4_0
                try clear hfz4_1
                try clear hfz4_2
                try clear hfz4_3
                try clear hfz4_4
                try clear hfz4_5
                try clear hfz4_6
                try clear hfz4_7
                try clear hfz4_8
                try clear hfz4_9
                try clear p2
                obtain ⟨x4_3, x5_3, rfl, HA, HK3, HO_4, BK198, HB⟩ := hrel
                cases gk with
                | zero => exact absurd HA.out (by simp [strongroomlaw26_message.l0])
                | succ k3 =>
                  have H := HA.out
                  clear HA
                  simp only [strongroomlaw26_message.l0] at H
                  by_cases c12 : x5_3 < x3_5
                  · rw [if_pos c12] at H
                    have c12b0 : decide (x5_3 < x3_5) = true := decide_eq_true c12
                    clear c12
                    by_cases c13 : 0 ≤ x5_3
                    · rw [if_pos c13] at H
                      have c13b0 : decide (0 ≤ x5_3) = true := decide_eq_true c13
                      clear c13
                      by_cases c14 : x5_3 < (x4_3.length : Int)
                      · rw [if_pos c14] at H
                        have c14b0 : decide (x5_3 < (x4_3.length : Int)) = true := decide_eq_true c14
                        clear c14
                        obtain ⟨y202, hy202⟩ : ∃ y_ : List Int, y_ = (x4_3.set (x5_3 : Int).toNat a0_4) := ⟨_, rfl⟩
                        replace H : (strongroomlaw26_message.l0 k3 x3_5 y202 (wrap64 (x5_3 + 1)) a0_0 a0_1 a0_2 a0_3 a0_4 a0_5 a0_6 a0_7 a0_8 a0_9) = some r := by first | (rw [hy202]; with_reducible exact H) | (have H2_ := (Option.bind_some _ _).symm.trans H; rw [hy202]; with_reducible exact H2_) | (have H2_ := (Option.bind_some _ _).symm.trans H; with_reducible exact H2_) | with_reducible exact H | (rw [hy202]; exact H) | exact H
                        have Ny202 := Aside0.mk hy202
                        clear hy202
                        have H' := Aside0.mk H
                        clear H
                        have hcz16_0 : wr.cell? ⟨gb198, 0, none⟩ = some (.int .i64 a0_0) := (blk_cell BK198.out 0).trans rfl
                        have hcz16_1 : wr.cell? ⟨gb198, 1, none⟩ = some (.int .i64 a0_1) := (blk_cell BK198.out 1).trans rfl
                        have hcz16_2 : wr.cell? ⟨gb198, 2, none⟩ = some (.int .i64 a0_2) := (blk_cell BK198.out 2).trans rfl
                        have hcz16_3 : wr.cell? ⟨gb198, 3, none⟩ = some (.int .i64 a0_3) := (blk_cell BK198.out 3).trans rfl
                        have hcz16_4 : wr.cell? ⟨gb198, 4, none⟩ = some (.int .u8 a0_4) := (blk_cell BK198.out 4).trans rfl
                        have hcz16_5 : wr.cell? ⟨gb198, 5, none⟩ = some (.bool a0_5) := (blk_cell BK198.out 5).trans rfl
                        have hcz16_6 : wr.cell? ⟨gb198, 6, none⟩ = some (.int .i64 a0_6) := (blk_cell BK198.out 6).trans rfl
                        have hcz16_7 : wr.cell? ⟨gb198, 7, none⟩ = some (.bool a0_7) := (blk_cell BK198.out 7).trans rfl
                        have hcz16_8 : wr.cell? ⟨gb198, 8, none⟩ = some (.string a0_8) := (blk_cell BK198.out 8).trans rfl
                        have hcz16_9 : wr.cell? ⟨gb198, 9, none⟩ = some (.int .i64 a0_9) := (blk_cell BK198.out 9).trans rfl
                        have hfz16_0 := blk_frozen BK198.out 0
                        have hfz16_1 := blk_frozen BK198.out 1
                        have hfz16_2 := blk_frozen BK198.out 2
                        have hfz16_3 := blk_frozen BK198.out 3
                        have hfz16_4 := blk_frozen BK198.out 4
                        have hfz16_5 := blk_frozen BK198.out 5
                        have hfz16_6 := blk_frozen BK198.out 6
                        have hfz16_7 := blk_frozen BK198.out 7
                        have hfz16_8 := blk_frozen BK198.out 8
                        have hfz16_9 := blk_frozen BK198.out 9
                        have p15 : 0 ≤ (x5_3 : Int) := of_decide_eq_true (by first | (with_reducible assumption) | assumption)
                        have q15 : (x5_3 : Int) < ((x4_3.length : Int) : Int) := of_decide_eq_true (by first | (with_reducible assumption) | assumption)
                        obtain ⟨go15, co15, eo15, gb15, gl15, cl15, HG15⟩ := Kd.R_form HO_4.out (by omega)
                        (first | cases eo15 | (injection eo15 with ea_ en_ ec_; (first | subst ea_ | (injection ea_ with ea_; subst ea_)); subst ec_; clear en_))
                        have GB15 := Aside0.mk gb15
                        have GG15 := Aside0.mk HG15
                        clear gb15 gl15 HG15
                        obtain ⟨hx15_0, hf15_0⟩ := Kd.R_celln 0 HO_4.out (x5_3 : Int) p15 q15
                        replace p15 := eq_true p15
                        replace q15 := eq_true q15
                        have HP17 := Kd.R_putg HO_4.out (x5_3 : Int) a0_4
                        go_wp2_with (first | ((with_reducible refine gate_store (t := 5) (p := 25) rfl ?_); refine store_event (t := 5) (p := 25) (v := ?vo_w18) (w1 := (wr.setCell ⟨go15, (x5_3 : Int).toNat, none⟩ (.int .u8 a0_4))) ?hg ?ho ?hn ?hr ?_; (case ho => rfl); (case hg => rfl); (case hn => rfl); (case hr => first | (go_simp; done) | (go_simp; rfl)); intro w18 hw; have hg : wr.grownBy w18 (some go15) := (by rw [hw]; exact HP17.2); have hp_ : Kd.R (Kd.int .u8) 5 w18 w.heap.size (fun _ => True) (.slice (some ⟨go15, 0, none⟩) x4_3.length co15) y202 := (by rw [hw, Ny202.out]; exact HP17.1); clear HP17; have n0_ := Aside0.mk (hp_); have n1_ := Aside0.mk (blk_grown (g := gb198) (o := .cells #[.int .i64 a0_0, .int .i64 a0_1, .int .i64 a0_2, .int .i64 a0_3, .int .u8 a0_4, .bool a0_5, .int .i64 a0_6, .bool a0_7, .string a0_8, .int .i64 a0_9] 59 (0, 0)) (by (with_reducible repeat (first | refine blk_drewN ?_ _ | refine blk_drew ?_ | refine blk_alloc ?_ _)); exact BK198.out) hg (Kd.R_ne HO_4.out BK198.out (by decide))); have n2_ := Aside0.mk ((by rw [hw]; exact below_set (HB.out) GB15.out : Below w.heap.size w w18)); clear HO_4; clear BK198; clear HB; have HO_4 := n0_; have BK198 := n1_; have HB := n2_; clear n0_ n1_ n2_; clear hg hw hp_))
                        go_roundg k3
                        case measure => have := HJ1.out; have := HJ5.out; have := HK3.out; omega
                        case rel => exact ⟨(y202), (wrap64 (x5_3 + 1)), (by first | rfl | (simp; done) | (simp [*]; done)), H', ⟨by have := HJ1.out; have := HJ5.out; have := HK3.out; omega⟩, ⟨by (with_reducible repeat (first | apply Kd.R_alloc | apply Kd.R_drewN | apply Kd.R_drew)); exact HO_4.out⟩, ⟨by (with_reducible repeat (first | refine blk_drewN ?_ _ | refine blk_drew ?_ | refine blk_alloc ?_ _)); exact BK198.out⟩, ⟨by repeat (first | (with_reducible first | exact HB.out | apply below_alloc | apply pw_below_drewN | apply below_drew1 | refine below_set ?_ GE198.out) | exact HB.out)⟩⟩
                      · rw [if_neg c14] at H
                        exact absurd H (by simp)
                    · rw [if_neg c13] at H
                      exact absurd H (by simp)
                  · rw [if_neg c12] at H
                    have c12b0 : decide (x5_3 < x3_5) = false := decide_eq_false c12
                    clear c12
                    obtain rfl := Option.some.inj H
                    have hcv19 := own_string (P := Try.prog) Try.underlying24 Try.underlying5 Try.underlying9 (Kd.own_of_R HO_4.out)
                    go_wp2
                    go_ret
                    exact ⟨by first | rfl | (simp [errW_none, errW_some] <;> rfl) | (simp [*, errW_none, errW_some] <;> rfl), by repeat (first | (with_reducible first | exact HB.out | apply below_alloc | apply pw_below_drewN | apply below_drew1 | refine below_set ?_ GE198.out) | exact HB.out)⟩
            · rw [if_neg c9] at H
              exact absurd H (by simp)
          · rw [if_neg c8] at H
            exact absurd H (by simp)

end Go.Proofs.Yteaefambkagpbaa.F

-- F30
namespace Go.Proofs.Yteaefambkagpbaa.F
open Go.RowKit Go.Proofs.YteaefambkagpbaaW.PrintWords Go.Proofs.YteaefambkagpbaaW.PrintLast Go.Proofs.YteaefambkagpbaaW.PrintMore
attribute [local go_sem] max2_int min2_int max_two min_two max_three min_three max_four min_four   -- for this text's walks alone
set_option linter.unusedVariables false
set_option linter.unusedSimpArgs false

-- NOT PRINTED: function 6 (strongroomlaw26_LinkNils)

end Go.Proofs.Yteaefambkagpbaa.F

-- LnkN
namespace Go.Proofs.Yteaefambkagpbaa.F
open Go Go.RowKit Go.Proofs.YteaefambkagpbaaW.PrintWords Go.Proofs.YteaefambkagpbaaW.PrintLast Go.Proofs.YteaefambkagpbaaW.PrintMore Go.Proofs.YteaefambkagpbaaM Go.Proofs.YteaefambkagpbaaR
attribute [local go_sem] max2_int min2_int max_two min_two
set_option linter.unusedSimpArgs false
set_option linter.unusedVariables false
set_option maxRecDepth 100000
attribute [local simp] undef_ne undef_ne'
theorem msg_l0 (n : Nat) (hn : n ≤ 5000) (fl : Int) (y0 y1 y2 y3 y6 y9 : Int) (y5 y7 : Bool) (y8 : ByteArray) : ∀ (m i k : Nat), i + m = n → m + 1 ≤ k → strongroomlaw26_message.l0 k (n : Int) (List.replicate i fl ++ List.replicate m 0) (i : Int) y0 y1 y2 y3 fl y5 y6 y7 y8 y9 = some (strOfNums (List.replicate n fl)) := by
  intro m
  induction m with
  | zero =>
    intro i k hi hk
    obtain ⟨k, rfl⟩ : ∃ j, k = j + 1 := ⟨k - 1, by omega⟩
    obtain rfl : i = n := by omega
    simp only [strongroomlaw26_message.l0]
    rw [if_neg (by omega)]
    simp
  | succ m ih =>
    intro i k hi hk
    obtain ⟨k, rfl⟩ : ∃ j, k = j + 1 := ⟨k - 1, by omega⟩
    simp only [strongroomlaw26_message.l0]
    rw [if_pos (by omega), if_pos (by omega), if_pos (by simp; omega), w64 (by omega) (by omega)]
    have e : (List.replicate i fl ++ List.replicate (m + 1) 0).set ((i : Int)).toNat fl = List.replicate (i + 1) fl ++ List.replicate m 0 := by
      rw [Int.toNat_natCast, List.set_append_right _ _ (by simp), List.length_replicate, Nat.sub_self, List.replicate_succ, List.set_cons_zero, List.replicate_succ', List.append_assoc]
      rfl
    rw [e, show (i : Int) + 1 = ((i + 1 : Nat) : Int) from by omega]
    exact ih (i + 1) k (by omega) (by omega)
/-- how many parts: at most 21, at least one -/
theorem cutN_len : ∀ (k : Nat) (m : ByteArray), 1 ≤ (cutN k m).length ∧ 200 * (cutN k m).length ≤ m.size + 200 := by
  intro k
  induction k with
  | zero => intro m; simp only [cutN, List.length_singleton]; omega
  | succ k ih =>
    intro m
    simp only [cutN]
    by_cases h : 200 < m.size
    · rw [if_pos h, List.length_cons]
      have := ih (m.extract 200 m.size)
      rw [ByteArray.size_extract] at this
      omega
    · rw [if_neg h, List.length_singleton]; omega
theorem cutP_len (m : ByteArray) (h : m.size ≤ 4096) : 1 ≤ (cutP m).length ∧ (cutP m).length ≤ 21 := by
  have := cutN_len m.size m
  unfold cutP
  omega
end Go.Proofs.Yteaefambkagpbaa.F

-- LnkT
namespace Go.Proofs.Yteaefambkagpbaa.F
open Go Go.RowKit Go.Proofs.YteaefambkagpbaaW.PrintWords Go.Proofs.YteaefambkagpbaaW.PrintLast Go.Proofs.YteaefambkagpbaaW.PrintMore Go.Proofs.YteaefambkagpbaaM Go.Proofs.YteaefambkagpbaaR
attribute [local go_sem] max2_int min2_int max_two min_two
set_option linter.unusedSimpArgs false
set_option linter.unusedVariables false
set_option maxRecDepth 100000
abbrev Sd := S86
/-- how many were sent, from the first on -/
def toldN : List Sd → Nat
  | [] => 0
  | x :: l => if x.f1 = true then toldN l + 1 else 0
theorem toldN_le : ∀ l : List Sd, toldN l ≤ l.length
  | [] => Nat.le_refl _
  | x :: l => by
    simp only [toldN]
    split
    · have := toldN_le l; simp; omega
    · simp
theorem toldN_at : ∀ (l : List Sd) (i : Nat), i < toldN l → ∃ x, l[i]? = some x ∧ x.f1 = true
  | [], i, h => by simp [toldN] at h
  | x :: l, i, h => by
    simp only [toldN] at h
    split at h
    · rename_i hx
      cases i with
      | zero => exact ⟨x, rfl, hx⟩
      | succ i => exact toldN_at l i (by omega)
    · omega
theorem toldN_stop : ∀ (l : List Sd) (x : Sd), l[toldN l]? = some x → x.f1 = false
  | [], x, h => by simp [toldN] at h
  | y :: l, x, h => by
    simp only [toldN] at h
    split at h
    · exact toldN_stop l x h
    · rename_i hx
      obtain rfl : y = x := by simpa using h
      simpa using hx
theorem toldN_eq (l : List Sd) (i : Nat) (h1 : ∀ j, j < i → ∃ x, l[j]? = some x ∧ x.f1 = true) (h2 : ∀ x, l[i]? = some x → x.f1 = false) : toldN l = i := by
  rcases Nat.lt_trichotomy (toldN l) i with h | h | h
  · obtain ⟨x, hx, hs⟩ := h1 _ h
    rw [toldN_stop l x hx] at hs
    cases hs
  · exact h
  · obtain ⟨x, hx, hs⟩ := toldN_at l i h
    rw [h2 x hx] at hs
    cases hs
set_option maxHeartbeats 4000000 in
theorem told_c (w : World) (B g : Nat) (v : Value) (l : List Sd) (f n : Int) (h : SndM B g v l f n w) (hl : l.length ≤ 100000) :
    Calls Try.prog 39 #[.pointer (some ⟨g, 0, none⟩)] w (Tells w (Is (.int .i64 (toldN l : Int)))) := by
  obtain ⟨A, c, rfl, hc⟩ := h.row.slice
  have HS := Lib.hid (fun wx (hg : Grew w wx) => h.grew hg)
  obtain ⟨m, hm⟩ : ∃ m, m = l.length := ⟨_, rfl⟩
  have HM := Lib.hid hm
  have HC := Lib.hid (fun wx (hG : Grew w wx) => (show wx.cell? ⟨g, 0, none⟩ = some (.slice A m c) from by rw [(h.cells.grew hG).at_, hm]; rfl))
  rw [← hm] at hc hl
  clear h hm
  go_enter Try.func39, Try.ntmps39
  go_wp2_with fail
  go_loopw [3] (fun iv wr => ∃ i : Nat, iv = .int .i64 (i : Int) ∧ i ≤ m ∧ (∀ j, j < i → ∃ x, l[j]? = some x ∧ x.f1 = true) ∧ Grew w wr) (fun iv _ => m - (intOf iv).toNat)
  case atStart => exact ⟨0, rfl, Nat.zero_le _, fun j hj => absurd hj (by omega), Grew.refl _⟩
  case round =>
    obtain ⟨i, rfl, hi, hsent, hgr⟩ := hrel
    have q0 := HC.out wr hgr
    have HG := Lib.hid hgr
    have HSE := Lib.hid hsent
    clear hsent hgr
    by_cases hlt : i < m
    · have d1 : decide ((i : Int) < (m : Int)) = true := decide_eq_true (by omega)
      have d2 : decide (i < m) = true := decide_eq_true hlt
      have i1 : (i : Int) < (m : Int) := by omega
      have hat : l[i]? = some (l[i]'(by rw [← HM.out]; exact hlt)) := List.getElem?_eq_getElem _
      obtain ⟨x, hx⟩ : ∃ x, x = l[i]'(by rw [← HM.out]; exact hlt) := ⟨_, rfl⟩
      rw [← hx] at hat
      obtain ⟨g1, o, cap, hv, hcap, hB1, hg1, hcell, hfz⟩ := ((HS.out wr HG.out).row).at_ (by rw [← HM.out]; omega)
      rw [← HM.out] at hv hcell
      injection hv with hv1 hv2 hv3
      subst hv1 hv3
      have k5 := hcell (i * 8 + 5) (by omega)
      rw [sdc_at _ i x hat 5 (by omega), ← Nat.add_assoc] at k5
      simp only [sdc1, List.getElem?_cons_zero, List.getElem?_cons_succ] at k5
      have HAT := Lib.hid hat
      have wi : IntKind.i64.wrap ((i : Int) + 1) = (i : Int) + 1 := IntWalk.i64_in _ (by omega)
      have HWI := Lib.hid wi
      obtain ⟨xf, xs, xt, xc⟩ := x
      simp only at k5
      clear hx hat hcell hfz hB1 hg1 hcap hv2
      cases xs with
      | true =>
        go_wp2_with fail
        go_roundw
        case rel => exact ⟨i + 1, by go_num, by omega, fun j hj => by
          rcases Nat.lt_or_eq_of_le (Nat.le_of_lt_succ hj) with h | h
          · exact HSE.out j h
          · subst h; exact ⟨_, HAT.out, rfl⟩, HG.out⟩
        case measure => have wi := HWI.out; simp [intOf, wi]; omega
      | false =>
        have hres := toldN_eq l i HSE.out (fun x hx => by rw [HAT.out] at hx; injection hx with hx; rw [← hx])
        have HRES := Lib.hid hres
        clear hres
        go_wp2_with fail
        go_ret
        exact ⟨_, rfl, by rw [HRES.out]; rfl, HG.out⟩
    · obtain rfl : m = i := by omega
      have d1 : decide ((m : Int) < (m : Int)) = false := decide_eq_false (by omega)
      have d2 : decide (m < m) = false := decide_eq_false (by omega)
      have hres := toldN_eq l m HSE.out (fun x hx => by rw [HM.out, List.getElem?_eq_none (Nat.le_refl _)] at hx; cases hx)
      have HRES := Lib.hid hres
      clear hres
      go_wp2_with fail
      go_ret
      exact ⟨_, rfl, by rw [HRES.out]; rfl, HG.out⟩
/-- is bit i set? -/
def bitT (bits : Int) (i : Nat) : Bool := decide ((bits / 2 ^ i) % 2 = 1)
def came1 (k : Nat) (l : List Sd) : List Sd := match l[k]? with
  | some x => l.set k ⟨x.f0, x.f1, x.f2, true⟩
  | none => l
theorem came1_len (k : Nat) (l : List Sd) : (came1 k l).length = l.length := by
  unfold came1
  split
  · rw [List.length_set]
  · rfl
def mark1 (told : Nat) (d bits : Int) (i : Nat) (l : List Sd) : List Sd := if bitT bits i = true ∧ 0 ≤ d + i ∧ d + i < told then came1 (d + i).toNat l else l
def markN (told : Nat) (d bits : Int) : Nat → List Sd → List Sd
  | 0, l => l
  | i + 1, l => mark1 told d bits i (markN told d bits i l)
theorem markN_len (told : Nat) (d bits : Int) : ∀ (i : Nat) (l : List Sd), (markN told d bits i l).length = l.length
  | 0, l => rfl
  | i + 1, l => by
    simp only [markN, mark1]
    split
    · rw [came1_len, markN_len told d bits i l]
    · exact markN_len told d bits i l
/-- the sender's parts and first, behind a receipt -/
def takeS (l : List Sd) (f N bits : Int) : List Sd × Int :=
  if f + toldN l < N then (l, f) else (markN (toldN (l.drop (N - f).toNat)) (N - max f N) bits 16 (l.drop (N - f).toNat), max f N)
def StakeD (B g : Nat) (v : Value) (n : Int) (r : List Sd × Int) (w : World) (e : Ending) (w' : World) : Prop :=
  ∃ b v', e = .returned (.bool b) ∧ SndM B g v' r.1 r.2 n w' ∧ Upd (sndS g v) w w' ∧ v'.ownBlock = v.ownBlock
theorem infoSdI : ∃ i : TypeInfo, Try.prog.info? 86 = some i ∧ i.size = 8 := by
  obtain ⟨i, hi, hz⟩ := Option.map_eq_some_iff.1 infoSd
  injection hz with h1 h2
  injection h2 with h2 h3
  exact ⟨i, hi, h2⟩
theorem mark1_no {told : Nat} {d bits : Int} {i : Nat} {l : List Sd} (h : ¬ (bitT bits i = true ∧ 0 ≤ d + i ∧ d + i < told)) : mark1 told d bits i l = l := by
  unfold mark1
  rw [if_neg h]
theorem mark1_yes {told : Nat} {d bits : Int} {i j : Nat} {l : List Sd} (h : bitT bits i = true) (h1 : d + i = (j : Int)) (h2 : j < told) : mark1 told d bits i l = came1 j l := by
  unfold mark1
  rw [if_pos ⟨h, by omega, by omega⟩, h1, Int.toNat_natCast]
theorem came1_same {k : Nat} {l : List Sd} {x : Sd} (h : l[k]? = some x) (hc : x.f3 = true) : came1 k l = l := by
  unfold came1
  rw [h]
  have e : (⟨x.f0, x.f1, x.f2, true⟩ : Sd) = x := by rw [← hc]
  simp only
  rw [e]
  apply List.ext_getElem?
  intro j
  by_cases hj : k = j
  · subst hj
    rw [List.getElem?_set_self (List.getElem?_eq_some_iff.1 h).1, h]
  · rw [List.getElem?_set_ne hj]
theorem came1_set {k : Nat} {l : List Sd} {x : Sd} (h : l[k]? = some x) : came1 k l = l.set k ⟨x.f0, x.f1, x.f2, true⟩ := by
  unfold came1
  rw [h]
theorem sdc_set7 (l : List Sd) (i : Nat) (x : Sd) (b : Bool) (h : l[i]? = some x) : (sdc l).set (i * 8 + 7) (.bool b) = sdc (l.set i ⟨x.f0, x.f1, x.f2, b⟩) := by
  induction l generalizing i with
  | nil => simp at h
  | cons y l ih =>
    have e : sdc (y :: l) = sdc1 y ++ sdc l := by simp [sdc]
    cases i with
    | zero =>
      obtain rfl : y = x := by simpa using h
      simp [sdc, sdc1]
    | succ i =>
      have := ih i (by simpa using h)
      rw [e, show (i + 1) * 8 + 7 = 8 + (i * 8 + 7) from by omega]
      have e8 : (sdc1 y).length = 8 := rfl
      rw [List.set_append_right _ _ (by omega), e8, Nat.add_sub_cancel_left, this]
      simp [sdc]
theorem bit_and (bits : Int) (i : Nat) (h0 : 0 ≤ bits) (h1 : bits < 65536) : Go.bits .and .i64 (bits / 2 ^ i) 1 = (bits / 2 ^ i) % 2 := by
  have h2 : 0 ≤ bits / 2 ^ i := Int.ediv_nonneg h0 (by exact Int.pow_nonneg (by decide))
  have h3 : bits / 2 ^ i ≤ bits := Int.ediv_le_self _ h0
  exact and1 _ h2 (by omega)
set_option maxHeartbeats 8000000 in
theorem stake_c (w : World) (B g : Nat) (v : Value) (l : List Sd) (f n N bits : Int) (hS : SndM B g v l f n w) (hN0 : 0 ≤ N) (hN1 : N ≤ 1000000) (hb0 : 0 ≤ bits) (hb1 : bits < 65536) (hb2 : bits % 2 = 0) (hf0 : 0 ≤ f) (hf1 : f ≤ 1000000) (hl : l.length ≤ 100000) :
    Calls Try.prog 23 #[.pointer (some ⟨g, 0, none⟩), .agg #[.bool true, .int .i64 N, .bool false, .string ⟨#[]⟩, .int .i64 bits]] w (StakeD B g v n (takeS l f N bits) w) := by
  obtain ⟨RS, hRS⟩ : ∃ RS, RS = takeS l f N bits := ⟨_, rfl⟩
  rw [← hRS]
  have HRS := Lib.hid hRS
  obtain ⟨W1, hW1⟩ : ∃ W1, W1 = w.alloc (.cells #[.bool true, .int .i64 N, .bool false, .string ⟨#[]⟩, .int .i64 bits] 30) := ⟨_, rfl⟩
  have hg1 : Grew w W1 := by rw [hW1]; exact Grew.alloc _ _
  have hbk : Blk W1 w.heap.size 30 [.bool true, .int .i64 N, .bool false, .string ⟨#[]⟩, .int .i64 bits] := by rw [hW1]; exact Blk.new _ _ _
  obtain ⟨pb, hpb⟩ : ∃ pb, pb = w.heap.size := ⟨_, rfl⟩
  rw [← hpb] at hbk
  have hnot : ¬ sndS g v pb := fun h => by
    rcases h with h | h
    · have := hS.cells.lt; omega
    · have := hS.row.lt _ h; omega
  have HBX := Lib.hid (fun wx (h : Upd (sndS g v) W1 wx) => show wx.cell? ⟨pb, 0, none⟩ = some (.bool true) ∧ wx.cell? ⟨pb, 1, none⟩ = some (.int .i64 N) ∧ wx.cell? ⟨pb, 2, none⟩ = some (.bool false) ∧ wx.cell? ⟨pb, 3, none⟩ = some (.string ⟨#[]⟩) ∧ wx.cell? ⟨pb, 4, none⟩ = some (.int .i64 bits) from by
    have h9 := hbk.upd h hnot
    exact ⟨by rw [h9.at_]; rfl, by rw [h9.at_]; rfl, by rw [h9.at_]; rfl, by rw [h9.at_]; rfl, by rw [h9.at_]; rfl⟩)
  have HRI := Lib.hid (fun wx => right_c (⟨true, N, false, ⟨#[]⟩, bits⟩ : Pk) (by show -9223372036854775808 ≤ bits; omega) wx)
  have hright : rightP ⟨true, N, false, ⟨#[]⟩, bits⟩ = true := by
    unfold rightP
    simp only [if_true]
    rw [decide_eq_true (show 0 ≤ N ∧ N ≤ 1099511627776 by omega), decide_eq_true (show 0 ≤ bits ∧ bits < 65536 ∧ bits % 2 = 0 from ⟨hb0, hb1, hb2⟩), decide_eq_true (show (⟨#[]⟩ : ByteArray).size = 0 from rfl)]
    rfl
  rw [hright] at HRI
  simp only [Pk.v] at HRI
  have hS1 := hS.grew hg1
  have HS1 := Lib.hid (fun wx (h : Grew W1 wx) => hS1.grew h)
  have HF := Lib.hid (fun wx (h : Grew W1 wx) => show wx.cell? ⟨g, 1, none⟩ = some (.int .i64 f) from by rw [((hS1.grew h).cells).at_]; rfl)
  have HTO := Lib.hid (fun wx (h : Grew W1 wx) => told_c wx B g v l f n (hS1.grew h) hl)
  obtain ⟨T, hT⟩ : ∃ T, T = toldN l := ⟨_, rfl⟩
  have hTl : T ≤ l.length := by rw [hT]; exact toldN_le l
  have HT := Lib.hid hT
  rw [← hT] at HTO
  have HW1 := Lib.hid hW1
  have HG1 := Lib.hid hg1
  have HPB := Lib.hid hpb
  have HN := Lib.hid hnot
  obtain ⟨A, c, rfl, hc⟩ := hS.row.slice
  obtain ⟨k, hk⟩ : ∃ k, k = l.length := ⟨_, rfl⟩
  have HK := Lib.hid hk
  rw [← hk] at hl hTl hc HBX HN HS1 ⊢
  have HC0 := Lib.hid (fun wx (h : Grew W1 wx) => show wx.cell? ⟨g, 0, none⟩ = some (.slice A k c) from by rw [((hS1.grew h).cells).at_, ← hk]; rfl)
  have wT : IntKind.i64.wrap (f + (T : Int)) = f + (T : Int) := IntWalk.i64_in _ (by omega)
  clear hRS hW1 hg1 hbk hnot hright hS1 hT hS hk hpb
  by_cases hbig : f + (T : Int) < N
  · have d1 : decide (f + (T : Int) < N) = true := decide_eq_true hbig
    have hrs := Lib.hid (show RS = (l, f) from by rw [HRS.out]; unfold takeS; rw [← HT.out, if_pos hbig])
    go_enter Try.func23, Try.ntmps23
    go_wp2_with fail
    rw [← HPB.out, ← HW1.out]
    apply region_grew [Is _, Is _, Is _, Is _, Is _, Is _, Is _, Is _, Is _, Is (.bool true), Is _, Is _, Is _, Is _, Is _, Is _, Is _, Is _, Is _, Is _, Is (.int .i64 (T : Int)), Is _] [([(0, none)], none), ([(9, some 0)], none), ([(10, some 1)], none), ([(3, none), (11, some 2)], some (11, false)), ([(12, some 3), (11, some 2)], some (11, false)), ([(13, some 4), (11, some 2)], some (11, false)), ([(11, some 2), (14, some 5)], none), ([(15, some 6)], none), ([(3, none), (16, some 7)], some (16, false)), ([(17, some 8), (16, some 7)], some (16, false)), ([(18, some 9), (16, some 7)], some (16, false)), ([(16, some 7), (19, some 10)], none), ([(20, some 11)], none), ([(3, none), (21, some 12)], some (21, false)), ([(22, some 13), (21, some 12)], some (21, false)), ([(0, none), (21, some 12)], some (21, false)), ([(24, some 15), (21, some 12)], some (21, false)), ([(25, some 16), (21, some 12)], some (21, false)), ([(26, some 17), (21, some 12)], some (21, false)), ([(0, none), (21, some 12)], some (21, false)), ([(28, some 19), (21, some 12)], some (21, false)), ([(27, some 18), (29, some 20), (21, some 12)], some (21, false))] [(9, 0), (10, 1), (11, 2), (12, 3), (13, 4), (14, 5), (15, 6), (16, 7), (17, 8), (18, 9), (19, 10), (20, 11), (21, 12), (22, 13), (23, 14), (24, 15), (25, 16), (26, 17), (27, 18), (28, 19), (29, 20), (30, 21)] rfl (by kernel_rfl) (by kernel_rfl) (show Stable Grew _ from ⟨Is.stable _, Is.stable _, Is.stable _, Is.stable _, Is.stable _, Is.stable _, Is.stable _, Is.stable _, Is.stable _, Is.stable _, Is.stable _, Is.stable _, Is.stable _, Is.stable _, Is.stable _, Is.stable _, Is.stable _, Is.stable _, Is.stable _, Is.stable _, Is.stable _, Is.stable _, trivial⟩)
    · show OpsHold _ _ _ _ _ _ _ _ _
      refine ⟨fun a_ wx hR hD K hK => ?_, ?_⟩
      · have hG : Grew W1 wx := (Grew.drew _).trans hR
        simp [Deps, Dep, at_, Is] at hD
        go_simp
        exact hK _ _ (Grew.refl _) rfl
      refine ⟨fun a_ wx hR hD K hK => ?_, ?_⟩
      · have hG : Grew W1 wx := (Grew.drew _).trans hR
        simp [Deps, Dep, at_, Is] at hD
        go_simp
        exact hK _ _ (Grew.refl _) rfl
      refine ⟨fun a_ wx hR hD K hK => ?_, ?_⟩
      · have hG : Grew W1 wx := (Grew.drew _).trans hR
        simp [Deps, Dep, at_, Is] at hD
        go_simp
        exact hK _ _ (Grew.refl _) rfl
      refine ⟨fun a_ wx hR hD => ⟨fun hgd K hK => ?_, fun hgd => ?_⟩, ?_⟩
      · have hG : Grew W1 wx := (Grew.drew _).trans hR
        clear hgd
        simp [Deps, Dep, at_, Is] at hD
        obtain ⟨hd0, hd1⟩ := hD
        go_simp
        exact hK _ _ (Grew.refl _) rfl
      · have hG : Grew W1 wx := (Grew.drew _).trans hR
        exfalso
        simp [Deps, Dep, at_, Is] at hD
        first | (simp_all; done) | (simp_all [undef]; done)
      refine ⟨fun a_ wx hR hD => ⟨fun hgd K hK => ?_, fun hgd => ?_⟩, ?_⟩
      · have hG : Grew W1 wx := (Grew.drew _).trans hR
        clear hgd
        simp [Deps, Dep, at_, Is] at hD
        obtain ⟨e0, e1, e2, e3, e4⟩ := HBX.out wx (Upd.of_grew hG)
        go_simp
        exact hK _ _ (Grew.refl _) rfl
      · have hG : Grew W1 wx := (Grew.drew _).trans hR
        exfalso
        simp [Deps, Dep, at_, Is] at hD
        first | (simp_all; done) | (simp_all [undef]; done)
      refine ⟨fun a_ wx hR hD => ⟨fun hgd K hK => ?_, fun hgd => ?_⟩, ?_⟩
      · have hG : Grew W1 wx := (Grew.drew _).trans hR
        clear hgd
        simp [Deps, Dep, at_, Is] at hD
        obtain ⟨hd0, hd1⟩ := hD
        go_simp
        exact hK _ _ (Grew.refl _) rfl
      · have hG : Grew W1 wx := (Grew.drew _).trans hR
        exfalso
        simp [Deps, Dep, at_, Is] at hD
        first | (simp_all; done) | (simp_all [undef]; done)
      refine ⟨fun a_ wx hR hD K hK => ?_, ?_⟩
      · have hG : Grew W1 wx := (Grew.drew _).trans hR
        simp [Deps, Dep, at_, Is] at hD
        obtain ⟨hd0, hd1⟩ := hD
        go_simp
        exact hK _ _ (Grew.refl _) rfl
      refine ⟨fun a_ wx hR hD K hK => ?_, ?_⟩
      · have hG : Grew W1 wx := (Grew.drew _).trans hR
        simp [Deps, Dep, at_, Is] at hD
        go_simp
        exact hK _ _ (Grew.refl _) rfl
      refine ⟨fun a_ wx hR hD => ⟨fun hgd K hK => ?_, fun hgd => ?_⟩, ?_⟩
      · have hG : Grew W1 wx := (Grew.drew _).trans hR
        clear hgd
        simp [Deps, Dep, at_, Is] at hD
        obtain ⟨e0, e1, e2, e3, e4⟩ := HBX.out wx (Upd.of_grew hG)
        go_simp
        exact hK _ _ (Grew.refl _) rfl
      · have hG : Grew W1 wx := (Grew.drew _).trans hR
        exfalso
        simp [Deps, Dep, at_, Is] at hD
        first | (simp_all; done) | (simp_all [undef]; done)
      refine ⟨fun a_ wx hR hD => ⟨fun hgd K hK => ?_, fun hgd => ?_⟩, ?_⟩
      · have hG : Grew W1 wx := (Grew.drew _).trans hR
        clear hgd
        simp [Deps, Dep, at_, Is] at hD
        obtain ⟨hd0, hd1⟩ := hD
        go_simp
        have hcn := HRI.out wx
        with_reducible refine hcn.mono ?_
        clear hcn
        rintro e wy ⟨v, rfl, hv, hg⟩
        exact hK _ _ hg hv
      · have hG : Grew W1 wx := (Grew.drew _).trans hR
        exfalso
        simp [Deps, Dep, at_, Is] at hD
        first | (simp_all; done) | (simp_all [undef]; done)
      refine ⟨fun a_ wx hR hD => ⟨fun hgd K hK => ?_, fun hgd => ?_⟩, ?_⟩
      · have hG : Grew W1 wx := (Grew.drew _).trans hR
        clear hgd
        simp [Deps, Dep, at_, Is] at hD
        obtain ⟨hd0, hd1⟩ := hD
        go_simp
        exact hK _ _ (Grew.refl _) rfl
      · have hG : Grew W1 wx := (Grew.drew _).trans hR
        exfalso
        simp [Deps, Dep, at_, Is] at hD
        first | (simp_all; done) | (simp_all [undef]; done)
      refine ⟨fun a_ wx hR hD K hK => ?_, ?_⟩
      · have hG : Grew W1 wx := (Grew.drew _).trans hR
        simp [Deps, Dep, at_, Is] at hD
        obtain ⟨hd0, hd1⟩ := hD
        go_simp
        exact hK _ _ (Grew.refl _) rfl
      refine ⟨fun a_ wx hR hD K hK => ?_, ?_⟩
      · have hG : Grew W1 wx := (Grew.drew _).trans hR
        simp [Deps, Dep, at_, Is] at hD
        go_simp
        exact hK _ _ (Grew.refl _) rfl
      refine ⟨fun a_ wx hR hD => ⟨fun hgd K hK => ?_, fun hgd => ?_⟩, ?_⟩
      · have hG : Grew W1 wx := (Grew.drew _).trans hR
        clear hgd
        simp [Deps, Dep, at_, Is] at hD
        obtain ⟨hd0, hd1⟩ := hD
        go_simp
        exact hK _ _ (Grew.refl _) rfl
      · have hG : Grew W1 wx := (Grew.drew _).trans hR
        exfalso
        simp [Deps, Dep, at_, Is] at hD
        first | (simp_all; done) | (simp_all [undef]; done)
      refine ⟨fun a_ wx hR hD => ⟨fun hgd K hK => ?_, fun hgd => ?_⟩, ?_⟩
      · have hG : Grew W1 wx := (Grew.drew _).trans hR
        clear hgd
        simp [Deps, Dep, at_, Is] at hD
        obtain ⟨e0, e1, e2, e3, e4⟩ := HBX.out wx (Upd.of_grew hG)
        go_simp
        exact hK _ _ (Grew.refl _) rfl
      · have hG : Grew W1 wx := (Grew.drew _).trans hR
        exfalso
        simp [Deps, Dep, at_, Is] at hD
        first | (simp_all; done) | (simp_all [undef]; done)
      refine ⟨fun a_ wx hR hD => ⟨fun hgd K hK => ?_, fun hgd => ?_⟩, ?_⟩
      · have hG : Grew W1 wx := (Grew.drew _).trans hR
        clear hgd
        simp [Deps, Dep, at_, Is] at hD
        obtain ⟨hd0, hd1⟩ := hD
        go_simp
        exact hK _ _ (Grew.refl _) rfl
      · have hG : Grew W1 wx := (Grew.drew _).trans hR
        exfalso
        simp [Deps, Dep, at_, Is] at hD
        first | (simp_all; done) | (simp_all [undef]; done)
      refine ⟨fun a_ wx hR hD => ⟨fun hgd K hK => ?_, fun hgd => ?_⟩, ?_⟩
      · have hG : Grew W1 wx := (Grew.drew _).trans hR
        clear hgd
        simp [Deps, Dep, at_, Is] at hD
        obtain ⟨hd0, hd1⟩ := hD
        go_simp
        exact hK _ _ (Grew.refl _) rfl
      · have hG : Grew W1 wx := (Grew.drew _).trans hR
        exfalso
        simp [Deps, Dep, at_, Is] at hD
        first | (simp_all; done) | (simp_all [undef]; done)
      refine ⟨fun a_ wx hR hD => ⟨fun hgd K hK => ?_, fun hgd => ?_⟩, ?_⟩
      · have hG : Grew W1 wx := (Grew.drew _).trans hR
        clear hgd
        simp [Deps, Dep, at_, Is] at hD
        obtain ⟨hd0, hd1⟩ := hD
        go_simp
        exact hK _ _ (Grew.refl _) rfl
      · have hG : Grew W1 wx := (Grew.drew _).trans hR
        exfalso
        simp [Deps, Dep, at_, Is] at hD
        first | (simp_all; done) | (simp_all [undef]; done)
      refine ⟨fun a_ wx hR hD => ⟨fun hgd K hK => ?_, fun hgd => ?_⟩, ?_⟩
      · have hG : Grew W1 wx := (Grew.drew _).trans hR
        clear hgd
        simp [Deps, Dep, at_, Is] at hD
        obtain ⟨hd0, hd1⟩ := hD
        have e_ := HF.out wx hG
        go_simp
        exact hK _ _ (Grew.refl _) rfl
      · have hG : Grew W1 wx := (Grew.drew _).trans hR
        exfalso
        simp [Deps, Dep, at_, Is] at hD
        first | (simp_all; done) | (simp_all [undef]; done)
      refine ⟨fun a_ wx hR hD => ⟨fun hgd K hK => ?_, fun hgd => ?_⟩, ?_⟩
      · have hG : Grew W1 wx := (Grew.drew _).trans hR
        clear hgd
        simp [Deps, Dep, at_, Is] at hD
        obtain ⟨hd0, hd1⟩ := hD
        go_simp
        exact hK _ _ (Grew.refl _) rfl
      · have hG : Grew W1 wx := (Grew.drew _).trans hR
        exfalso
        simp [Deps, Dep, at_, Is] at hD
        first | (simp_all; done) | (simp_all [undef]; done)
      refine ⟨fun a_ wx hR hD => ⟨fun hgd K hK => ?_, fun hgd => ?_⟩, ?_⟩
      · have hG : Grew W1 wx := (Grew.drew _).trans hR
        clear hgd
        simp [Deps, Dep, at_, Is] at hD
        obtain ⟨hd0, hd1⟩ := hD
        go_simp
        have hcn := HTO.out wx hG
        with_reducible refine hcn.mono ?_
        clear hcn
        rintro e wy ⟨v, rfl, hv, hg⟩
        exact hK _ _ hg hv
      · have hG : Grew W1 wx := (Grew.drew _).trans hR
        exfalso
        simp [Deps, Dep, at_, Is] at hD
        first | (simp_all; done) | (simp_all [undef]; done)
      refine ⟨fun a_ wx hR hD => ⟨fun hgd K hK => ?_, fun hgd => ?_⟩, ?_⟩
      · have hG : Grew W1 wx := (Grew.drew _).trans hR
        clear hgd
        simp [Deps, Dep, at_, Is] at hD
        obtain ⟨hd0, hd1, hd2⟩ := hD
        go_simp
        exact hK _ _ (Grew.refl _) rfl
      · have hG : Grew W1 wx := (Grew.drew _).trans hR
        exfalso
        simp [Deps, Dep, at_, Is] at hD
        first | (simp_all; done) | (simp_all [undef]; done)
      trivial
    · show EndHold _ _ _ _ _ _ _
      refine end_all (xs := [_, _, _, _, _, _, _, _, _, _, _, _, _, _, _, _, _, _, _, _, _, _]) ⟨rfl, rfl, rfl, rfl, rfl, rfl, rfl, rfl, rfl, rfl, rfl, rfl, rfl, rfl, rfl, rfl, rfl, rfl, rfl, rfl, rfl, rfl, trivial⟩ ?_
      rintro w2 hR1 -
      refine ⟨?_⟩
      have hG_w2 : Grew W1 w2 := (Grew.drew _).trans hR1
      clear hR1
      simp only [Act.put, List.setIfInBounds_toArray, List.set_cons_succ, List.set_cons_zero, dropN, putEach]
      have HG2 := Lib.hid hG_w2
      clear hG_w2
      go_wp2_with fail
      go_ret
      exact ⟨false, _, rfl, by rw [hrs.out]; exact HS1.out w2 HG2.out, Upd.of_grew (Grew.trans HG1.out HG2.out), rfl⟩
  · have d1 : decide (f + (T : Int) < N) = false := decide_eq_false hbig
    obtain ⟨m, hm⟩ : ∃ m, m = (N - f).toNat := ⟨_, rfl⟩
    obtain ⟨F2, hF2⟩ : ∃ F2, F2 = max f N := ⟨_, rfl⟩
    obtain ⟨l1, hl1⟩ : ∃ l1, l1 = l.drop m := ⟨_, rfl⟩
    have hrs := Lib.hid (show RS = (markN (toldN l1) (N - F2) bits 16 l1, F2) from by rw [HRS.out]; unfold takeS; rw [← HT.out, if_neg hbig, ← hm, ← hF2, ← hl1])
    have hmk : m ≤ k := by omega
    have hl1k : l1.length = k - m := by rw [hl1, List.length_drop, HK.out]
    have HL1 := Lib.hid hl1
    have HL1K := Lib.hid hl1k
    have HMM := Lib.hid hm
    have HF2 := Lib.hid hF2
    have hF2b : 0 ≤ F2 ∧ F2 ≤ 1000000 ∧ -1000000 ≤ N - F2 ∧ N - F2 ≤ 0 := by omega
    have wNf : IntKind.i64.wrap (N - f) = N - f := IntWalk.i64_in _ (by omega)
    obtain ⟨fb, hfb⟩ : ∃ fb : Bool, decide (f < N) = fb := ⟨_, rfl⟩
    have HFB := Lib.hid hfb
    clear hl1 hl1k hm hF2 hfb
    go_enter Try.func23, Try.ntmps23
    go_wp2_with fail
    rw [← HPB.out, ← HW1.out]
    apply region_grew [Is _, Is _, Is _, Is _, Is _, Is _, Is _, Is _, Is _, Is (.bool true), Is _, Is _, Is _, Is _, Is _, Is _, Is _, Is _, Is _, Is _, Is (.int .i64 (T : Int)), Is _] [([(0, none)], none), ([(9, some 0)], none), ([(10, some 1)], none), ([(3, none), (11, some 2)], some (11, false)), ([(12, some 3), (11, some 2)], some (11, false)), ([(13, some 4), (11, some 2)], some (11, false)), ([(11, some 2), (14, some 5)], none), ([(15, some 6)], none), ([(3, none), (16, some 7)], some (16, false)), ([(17, some 8), (16, some 7)], some (16, false)), ([(18, some 9), (16, some 7)], some (16, false)), ([(16, some 7), (19, some 10)], none), ([(20, some 11)], none), ([(3, none), (21, some 12)], some (21, false)), ([(22, some 13), (21, some 12)], some (21, false)), ([(0, none), (21, some 12)], some (21, false)), ([(24, some 15), (21, some 12)], some (21, false)), ([(25, some 16), (21, some 12)], some (21, false)), ([(26, some 17), (21, some 12)], some (21, false)), ([(0, none), (21, some 12)], some (21, false)), ([(28, some 19), (21, some 12)], some (21, false)), ([(27, some 18), (29, some 20), (21, some 12)], some (21, false))] [(9, 0), (10, 1), (11, 2), (12, 3), (13, 4), (14, 5), (15, 6), (16, 7), (17, 8), (18, 9), (19, 10), (20, 11), (21, 12), (22, 13), (23, 14), (24, 15), (25, 16), (26, 17), (27, 18), (28, 19), (29, 20), (30, 21)] rfl (by kernel_rfl) (by kernel_rfl) (show Stable Grew _ from ⟨Is.stable _, Is.stable _, Is.stable _, Is.stable _, Is.stable _, Is.stable _, Is.stable _, Is.stable _, Is.stable _, Is.stable _, Is.stable _, Is.stable _, Is.stable _, Is.stable _, Is.stable _, Is.stable _, Is.stable _, Is.stable _, Is.stable _, Is.stable _, Is.stable _, Is.stable _, trivial⟩)
    · show OpsHold _ _ _ _ _ _ _ _ _
      refine ⟨fun a_ wx hR hD K hK => ?_, ?_⟩
      · have hG : Grew W1 wx := (Grew.drew _).trans hR
        simp [Deps, Dep, at_, Is] at hD
        go_simp
        exact hK _ _ (Grew.refl _) rfl
      refine ⟨fun a_ wx hR hD K hK => ?_, ?_⟩
      · have hG : Grew W1 wx := (Grew.drew _).trans hR
        simp [Deps, Dep, at_, Is] at hD
        go_simp
        exact hK _ _ (Grew.refl _) rfl
      refine ⟨fun a_ wx hR hD K hK => ?_, ?_⟩
      · have hG : Grew W1 wx := (Grew.drew _).trans hR
        simp [Deps, Dep, at_, Is] at hD
        go_simp
        exact hK _ _ (Grew.refl _) rfl
      refine ⟨fun a_ wx hR hD => ⟨fun hgd K hK => ?_, fun hgd => ?_⟩, ?_⟩
      · have hG : Grew W1 wx := (Grew.drew _).trans hR
        clear hgd
        simp [Deps, Dep, at_, Is] at hD
        obtain ⟨hd0, hd1⟩ := hD
        go_simp
        exact hK _ _ (Grew.refl _) rfl
      · have hG : Grew W1 wx := (Grew.drew _).trans hR
        exfalso
        simp [Deps, Dep, at_, Is] at hD
        first | (simp_all; done) | (simp_all [undef]; done)
      refine ⟨fun a_ wx hR hD => ⟨fun hgd K hK => ?_, fun hgd => ?_⟩, ?_⟩
      · have hG : Grew W1 wx := (Grew.drew _).trans hR
        clear hgd
        simp [Deps, Dep, at_, Is] at hD
        obtain ⟨e0, e1, e2, e3, e4⟩ := HBX.out wx (Upd.of_grew hG)
        go_simp
        exact hK _ _ (Grew.refl _) rfl
      · have hG : Grew W1 wx := (Grew.drew _).trans hR
        exfalso
        simp [Deps, Dep, at_, Is] at hD
        first | (simp_all; done) | (simp_all [undef]; done)
      refine ⟨fun a_ wx hR hD => ⟨fun hgd K hK => ?_, fun hgd => ?_⟩, ?_⟩
      · have hG : Grew W1 wx := (Grew.drew _).trans hR
        clear hgd
        simp [Deps, Dep, at_, Is] at hD
        obtain ⟨hd0, hd1⟩ := hD
        go_simp
        exact hK _ _ (Grew.refl _) rfl
      · have hG : Grew W1 wx := (Grew.drew _).trans hR
        exfalso
        simp [Deps, Dep, at_, Is] at hD
        first | (simp_all; done) | (simp_all [undef]; done)
      refine ⟨fun a_ wx hR hD K hK => ?_, ?_⟩
      · have hG : Grew W1 wx := (Grew.drew _).trans hR
        simp [Deps, Dep, at_, Is] at hD
        obtain ⟨hd0, hd1⟩ := hD
        go_simp
        exact hK _ _ (Grew.refl _) rfl
      refine ⟨fun a_ wx hR hD K hK => ?_, ?_⟩
      · have hG : Grew W1 wx := (Grew.drew _).trans hR
        simp [Deps, Dep, at_, Is] at hD
        go_simp
        exact hK _ _ (Grew.refl _) rfl
      refine ⟨fun a_ wx hR hD => ⟨fun hgd K hK => ?_, fun hgd => ?_⟩, ?_⟩
      · have hG : Grew W1 wx := (Grew.drew _).trans hR
        clear hgd
        simp [Deps, Dep, at_, Is] at hD
        obtain ⟨e0, e1, e2, e3, e4⟩ := HBX.out wx (Upd.of_grew hG)
        go_simp
        exact hK _ _ (Grew.refl _) rfl
      · have hG : Grew W1 wx := (Grew.drew _).trans hR
        exfalso
        simp [Deps, Dep, at_, Is] at hD
        first | (simp_all; done) | (simp_all [undef]; done)
      refine ⟨fun a_ wx hR hD => ⟨fun hgd K hK => ?_, fun hgd => ?_⟩, ?_⟩
      · have hG : Grew W1 wx := (Grew.drew _).trans hR
        clear hgd
        simp [Deps, Dep, at_, Is] at hD
        obtain ⟨hd0, hd1⟩ := hD
        go_simp
        have hcn := HRI.out wx
        with_reducible refine hcn.mono ?_
        clear hcn
        rintro e wy ⟨v, rfl, hv, hg⟩
        exact hK _ _ hg hv
      · have hG : Grew W1 wx := (Grew.drew _).trans hR
        exfalso
        simp [Deps, Dep, at_, Is] at hD
        first | (simp_all; done) | (simp_all [undef]; done)
      refine ⟨fun a_ wx hR hD => ⟨fun hgd K hK => ?_, fun hgd => ?_⟩, ?_⟩
      · have hG : Grew W1 wx := (Grew.drew _).trans hR
        clear hgd
        simp [Deps, Dep, at_, Is] at hD
        obtain ⟨hd0, hd1⟩ := hD
        go_simp
        exact hK _ _ (Grew.refl _) rfl
      · have hG : Grew W1 wx := (Grew.drew _).trans hR
        exfalso
        simp [Deps, Dep, at_, Is] at hD
        first | (simp_all; done) | (simp_all [undef]; done)
      refine ⟨fun a_ wx hR hD K hK => ?_, ?_⟩
      · have hG : Grew W1 wx := (Grew.drew _).trans hR
        simp [Deps, Dep, at_, Is] at hD
        obtain ⟨hd0, hd1⟩ := hD
        go_simp
        exact hK _ _ (Grew.refl _) rfl
      refine ⟨fun a_ wx hR hD K hK => ?_, ?_⟩
      · have hG : Grew W1 wx := (Grew.drew _).trans hR
        simp [Deps, Dep, at_, Is] at hD
        go_simp
        exact hK _ _ (Grew.refl _) rfl
      refine ⟨fun a_ wx hR hD => ⟨fun hgd K hK => ?_, fun hgd => ?_⟩, ?_⟩
      · have hG : Grew W1 wx := (Grew.drew _).trans hR
        clear hgd
        simp [Deps, Dep, at_, Is] at hD
        obtain ⟨hd0, hd1⟩ := hD
        go_simp
        exact hK _ _ (Grew.refl _) rfl
      · have hG : Grew W1 wx := (Grew.drew _).trans hR
        exfalso
        simp [Deps, Dep, at_, Is] at hD
        first | (simp_all; done) | (simp_all [undef]; done)
      refine ⟨fun a_ wx hR hD => ⟨fun hgd K hK => ?_, fun hgd => ?_⟩, ?_⟩
      · have hG : Grew W1 wx := (Grew.drew _).trans hR
        clear hgd
        simp [Deps, Dep, at_, Is] at hD
        obtain ⟨e0, e1, e2, e3, e4⟩ := HBX.out wx (Upd.of_grew hG)
        go_simp
        exact hK _ _ (Grew.refl _) rfl
      · have hG : Grew W1 wx := (Grew.drew _).trans hR
        exfalso
        simp [Deps, Dep, at_, Is] at hD
        first | (simp_all; done) | (simp_all [undef]; done)
      refine ⟨fun a_ wx hR hD => ⟨fun hgd K hK => ?_, fun hgd => ?_⟩, ?_⟩
      · have hG : Grew W1 wx := (Grew.drew _).trans hR
        clear hgd
        simp [Deps, Dep, at_, Is] at hD
        obtain ⟨hd0, hd1⟩ := hD
        go_simp
        exact hK _ _ (Grew.refl _) rfl
      · have hG : Grew W1 wx := (Grew.drew _).trans hR
        exfalso
        simp [Deps, Dep, at_, Is] at hD
        first | (simp_all; done) | (simp_all [undef]; done)
      refine ⟨fun a_ wx hR hD => ⟨fun hgd K hK => ?_, fun hgd => ?_⟩, ?_⟩
      · have hG : Grew W1 wx := (Grew.drew _).trans hR
        clear hgd
        simp [Deps, Dep, at_, Is] at hD
        obtain ⟨hd0, hd1⟩ := hD
        go_simp
        exact hK _ _ (Grew.refl _) rfl
      · have hG : Grew W1 wx := (Grew.drew _).trans hR
        exfalso
        simp [Deps, Dep, at_, Is] at hD
        first | (simp_all; done) | (simp_all [undef]; done)
      refine ⟨fun a_ wx hR hD => ⟨fun hgd K hK => ?_, fun hgd => ?_⟩, ?_⟩
      · have hG : Grew W1 wx := (Grew.drew _).trans hR
        clear hgd
        simp [Deps, Dep, at_, Is] at hD
        obtain ⟨hd0, hd1⟩ := hD
        go_simp
        exact hK _ _ (Grew.refl _) rfl
      · have hG : Grew W1 wx := (Grew.drew _).trans hR
        exfalso
        simp [Deps, Dep, at_, Is] at hD
        first | (simp_all; done) | (simp_all [undef]; done)
      refine ⟨fun a_ wx hR hD => ⟨fun hgd K hK => ?_, fun hgd => ?_⟩, ?_⟩
      · have hG : Grew W1 wx := (Grew.drew _).trans hR
        clear hgd
        simp [Deps, Dep, at_, Is] at hD
        obtain ⟨hd0, hd1⟩ := hD
        have e_ := HF.out wx hG
        go_simp
        exact hK _ _ (Grew.refl _) rfl
      · have hG : Grew W1 wx := (Grew.drew _).trans hR
        exfalso
        simp [Deps, Dep, at_, Is] at hD
        first | (simp_all; done) | (simp_all [undef]; done)
      refine ⟨fun a_ wx hR hD => ⟨fun hgd K hK => ?_, fun hgd => ?_⟩, ?_⟩
      · have hG : Grew W1 wx := (Grew.drew _).trans hR
        clear hgd
        simp [Deps, Dep, at_, Is] at hD
        obtain ⟨hd0, hd1⟩ := hD
        go_simp
        exact hK _ _ (Grew.refl _) rfl
      · have hG : Grew W1 wx := (Grew.drew _).trans hR
        exfalso
        simp [Deps, Dep, at_, Is] at hD
        first | (simp_all; done) | (simp_all [undef]; done)
      refine ⟨fun a_ wx hR hD => ⟨fun hgd K hK => ?_, fun hgd => ?_⟩, ?_⟩
      · have hG : Grew W1 wx := (Grew.drew _).trans hR
        clear hgd
        simp [Deps, Dep, at_, Is] at hD
        obtain ⟨hd0, hd1⟩ := hD
        go_simp
        have hcn := HTO.out wx hG
        with_reducible refine hcn.mono ?_
        clear hcn
        rintro e wy ⟨v, rfl, hv, hg⟩
        exact hK _ _ hg hv
      · have hG : Grew W1 wx := (Grew.drew _).trans hR
        exfalso
        simp [Deps, Dep, at_, Is] at hD
        first | (simp_all; done) | (simp_all [undef]; done)
      refine ⟨fun a_ wx hR hD => ⟨fun hgd K hK => ?_, fun hgd => ?_⟩, ?_⟩
      · have hG : Grew W1 wx := (Grew.drew _).trans hR
        clear hgd
        simp [Deps, Dep, at_, Is] at hD
        obtain ⟨hd0, hd1, hd2⟩ := hD
        go_simp
        exact hK _ _ (Grew.refl _) rfl
      · have hG : Grew W1 wx := (Grew.drew _).trans hR
        exfalso
        simp [Deps, Dep, at_, Is] at hD
        first | (simp_all; done) | (simp_all [undef]; done)
      trivial
    · show EndHold _ _ _ _ _ _ _
      refine end_all (xs := [_, _, _, _, _, _, _, _, _, _, _, _, _, _, _, _, _, _, _, _, _, _]) ⟨rfl, rfl, rfl, rfl, rfl, rfl, rfl, rfl, rfl, rfl, rfl, rfl, rfl, rfl, rfl, rfl, rfl, rfl, rfl, rfl, rfl, rfl, trivial⟩ ?_
      rintro w2 hR1 -
      refine ⟨?_⟩
      have hG_w2 : Grew W1 w2 := (Grew.drew _).trans hR1
      clear hR1
      simp only [Act.put, List.setIfInBounds_toArray, List.set_cons_succ, List.set_cons_zero, dropN, putEach]
      have HG2 := Lib.hid hG_w2
      clear hG_w2
      go_wp2_with fail
      apply region_grew [Is _, Is _, Is _, Is _, Is _, Is _] [([(3, none)], none), ([(33, some 0)], none), ([(0, none)], none), ([(35, some 2)], none), ([(36, some 3)], none), ([(37, some 4)], none)] [(33, 0), (34, 1), (35, 2), (36, 3), (37, 4), (38, 5)] rfl (by kernel_rfl) (by kernel_rfl) (show Stable Grew _ from ⟨Is.stable _, Is.stable _, Is.stable _, Is.stable _, Is.stable _, Is.stable _, trivial⟩)
      · show OpsHold _ _ _ _ _ _ _ _ _
        refine ⟨fun a_ wx hR hD K hK => ?_, ?_⟩
        · have hG : Grew w2 wx := (Grew.drew _).trans hR
          simp [Deps, Dep, at_, Is] at hD
          go_simp
          exact hK _ _ (Grew.refl _) rfl
        refine ⟨fun a_ wx hR hD K hK => ?_, ?_⟩
        · have hG : Grew w2 wx := (Grew.drew _).trans hR
          simp [Deps, Dep, at_, Is] at hD
          obtain ⟨e0, e1, e2, e3, e4⟩ := HBX.out wx (Upd.of_grew (Grew.trans HG2.out hG))
          go_simp
          exact hK _ _ (Grew.refl _) rfl
        refine ⟨fun a_ wx hR hD K hK => ?_, ?_⟩
        · have hG : Grew w2 wx := (Grew.drew _).trans hR
          simp [Deps, Dep, at_, Is] at hD
          go_simp
          exact hK _ _ (Grew.refl _) rfl
        refine ⟨fun a_ wx hR hD K hK => ?_, ?_⟩
        · have hG : Grew w2 wx := (Grew.drew _).trans hR
          simp [Deps, Dep, at_, Is] at hD
          go_simp
          exact hK _ _ (Grew.refl _) rfl
        refine ⟨fun a_ wx hR hD K hK => ?_, ?_⟩
        · have hG : Grew w2 wx := (Grew.drew _).trans hR
          simp [Deps, Dep, at_, Is] at hD
          go_simp
          exact hK _ _ (Grew.refl _) rfl
        refine ⟨fun a_ wx hR hD K hK => ?_, ?_⟩
        · have hG : Grew w2 wx := (Grew.drew _).trans hR
          simp [Deps, Dep, at_, Is] at hD
          have e_ := HF.out wx (Grew.trans HG2.out hG)
          go_simp
          exact hK _ _ (Grew.refl _) rfl
        trivial
      · show EndHold _ _ _ _ _ _ _
        refine end_all (xs := [_, _, _, _, _, _]) ⟨rfl, rfl, rfl, rfl, rfl, rfl, trivial⟩ ?_
        rintro w3 hR1 -
        refine ⟨?_⟩
        have hG_w3 : Grew w2 w3 := (Grew.drew _).trans hR1
        clear hR1
        simp only [Act.put, List.setIfInBounds_toArray, List.set_cons_succ, List.set_cons_zero, dropN, putEach]
        have HG3 := Lib.hid (Grew.trans HG2.out hG_w3)
        clear hG_w3
        have hfb := HFB.out
        go_upto_if 40 with fail
        clear hfb
        go_cut [5] from 41 (fun v5 wc => ∃ v', v5 = .bool fb ∧ SndM B g v' l1 F2 n wc ∧ v'.ownBlock = (Value.slice A k c).ownBlock ∧ Upd (sndS g (Value.slice A k c)) W1 wc)
        case first =>
          cases fb with
          | false =>
            have hle := of_decide_eq_false HFB.out
            have hm0 : m = 0 := by have := HMM.out; omega
            have hf2 : F2 = f := by have := HF2.out; omega
            have hl0 : l1 = l := by rw [HL1.out, hm0]; rfl
            have HRES := Lib.hid (show SndM B g (Value.slice A k c) l1 F2 n w3 from by rw [hl0, hf2]; exact HS1.out w3 HG3.out)
            clear hm0 hf2 hl0
            go_wp2_with fail
            go_meet
            case rel => exact ⟨_, rfl, HRES.out, rfl, Upd.of_grew HG3.out⟩
          | true =>
            have hlt := of_decide_eq_true HFB.out
            have hmN : (m : Int) = N - f := by have := HMM.out; omega
            have hf2 : F2 = N := by have := HF2.out; omega
            obtain ⟨ii, hii, hsz⟩ := infoSdI
            obtain ⟨v', hrun, hrow', hown'⟩ := ((HS1.out w3 HG3.out).row).cut (P := Try.prog) 75 .i64 Try.underlying75 hii hsz m (by rw [← HK.out]; exact hmk)
            rw [sdc_drop, ← HL1.out, ← HK.out, ← HL1K.out] at hrow'
            rw [hmN] at hrun
            have HRUN := Lib.hid hrun
            have HROW := Lib.hid hrow'
            have HOWN := Lib.hid hown'
            obtain ⟨A4, c4, hv4, -⟩ := hrow'.slice
            subst hv4
            have HF2N := Lib.hid hf2
            clear hrun hrow' hown' hlt hmN hf2 hii hsz ii
            go_wp2_with fail
            apply region_grew [Is _, Is _, Is _, Is _, Is _, Is _, Is _, Is _, Is _, Is _, Is _, Is _, Is _] [([(0, none)], none), ([(0, none)], none), ([(42, some 1)], none), ([(43, some 2)], none), ([(44, some 3)], none), ([(3, none)], none), ([(46, some 5)], none), ([(0, none)], none), ([(48, some 7)], none), ([(49, some 8)], none), ([(50, some 9)], none), ([(47, some 6), (51, some 10)], none), ([(45, some 4), (52, some 11)], none)] [(41, 0), (42, 1), (43, 2), (44, 3), (45, 4), (46, 5), (47, 6), (48, 7), (49, 8), (50, 9), (51, 10), (52, 11), (53, 12)] rfl (by kernel_rfl) (by kernel_rfl) (show Stable Grew _ from ⟨Is.stable _, Is.stable _, Is.stable _, Is.stable _, Is.stable _, Is.stable _, Is.stable _, Is.stable _, Is.stable _, Is.stable _, Is.stable _, Is.stable _, Is.stable _, trivial⟩)
            · show OpsHold _ _ _ _ _ _ _ _ _
              refine ⟨fun a_ wx hR hD K hK => ?_, ?_⟩
              · have hG : Grew w3 wx := (Grew.drew _).trans hR
                simp [Deps, Dep, at_, Is] at hD
                go_simp
                exact hK _ _ (Grew.refl _) rfl
              refine ⟨fun a_ wx hR hD K hK => ?_, ?_⟩
              · have hG : Grew w3 wx := (Grew.drew _).trans hR
                simp [Deps, Dep, at_, Is] at hD
                go_simp
                exact hK _ _ (Grew.refl _) rfl
              refine ⟨fun a_ wx hR hD K hK => ?_, ?_⟩
              · have hG : Grew w3 wx := (Grew.drew _).trans hR
                simp [Deps, Dep, at_, Is] at hD
                go_simp
                exact hK _ _ (Grew.refl _) rfl
              refine ⟨fun a_ wx hR hD K hK => ?_, ?_⟩
              · have hG : Grew w3 wx := (Grew.drew _).trans hR
                simp [Deps, Dep, at_, Is] at hD
                go_simp
                exact hK _ _ (Grew.refl _) rfl
              refine ⟨fun a_ wx hR hD K hK => ?_, ?_⟩
              · have hG : Grew w3 wx := (Grew.drew _).trans hR
                simp [Deps, Dep, at_, Is] at hD
                have e_ := HC0.out wx (Grew.trans HG3.out hG)
                go_simp
                exact hK _ _ (Grew.refl _) rfl
              refine ⟨fun a_ wx hR hD K hK => ?_, ?_⟩
              · have hG : Grew w3 wx := (Grew.drew _).trans hR
                simp [Deps, Dep, at_, Is] at hD
                go_simp
                exact hK _ _ (Grew.refl _) rfl
              refine ⟨fun a_ wx hR hD K hK => ?_, ?_⟩
              · have hG : Grew w3 wx := (Grew.drew _).trans hR
                simp [Deps, Dep, at_, Is] at hD
                obtain ⟨e0, e1, e2, e3, e4⟩ := HBX.out wx (Upd.of_grew (Grew.trans HG3.out hG))
                go_simp
                exact hK _ _ (Grew.refl _) rfl
              refine ⟨fun a_ wx hR hD K hK => ?_, ?_⟩
              · have hG : Grew w3 wx := (Grew.drew _).trans hR
                simp [Deps, Dep, at_, Is] at hD
                go_simp
                exact hK _ _ (Grew.refl _) rfl
              refine ⟨fun a_ wx hR hD K hK => ?_, ?_⟩
              · have hG : Grew w3 wx := (Grew.drew _).trans hR
                simp [Deps, Dep, at_, Is] at hD
                go_simp
                exact hK _ _ (Grew.refl _) rfl
              refine ⟨fun a_ wx hR hD K hK => ?_, ?_⟩
              · have hG : Grew w3 wx := (Grew.drew _).trans hR
                simp [Deps, Dep, at_, Is] at hD
                go_simp
                exact hK _ _ (Grew.refl _) rfl
              refine ⟨fun a_ wx hR hD K hK => ?_, ?_⟩
              · have hG : Grew w3 wx := (Grew.drew _).trans hR
                simp [Deps, Dep, at_, Is] at hD
                have e_ := HF.out wx (Grew.trans HG3.out hG)
                go_simp
                exact hK _ _ (Grew.refl _) rfl
              refine ⟨fun a_ wx hR hD K hK => ?_, ?_⟩
              · have hG : Grew w3 wx := (Grew.drew _).trans hR
                simp [Deps, Dep, at_, Is] at hD
                obtain ⟨hd0, hd1⟩ := hD
                go_simp
                exact hK _ _ (Grew.refl _) rfl
              refine ⟨fun a_ wx hR hD K hK => ?_, ?_⟩
              · have hG : Grew w3 wx := (Grew.drew _).trans hR
                simp [Deps, Dep, at_, Is] at hD
                obtain ⟨hd0, hd1⟩ := hD
                have e_ := HRUN.out wx
                go_simp
                exact hK _ _ (Grew.refl _) rfl
              trivial
            · show EndHold _ _ _ _ _ _ _
              refine end_all (xs := [_, _, _, _, _, _, _, _, _, _, _, _, _]) ⟨rfl, rfl, rfl, rfl, rfl, rfl, rfl, rfl, rfl, rfl, rfl, rfl, rfl, trivial⟩ ?_
              rintro w4 hR1 -
              refine ⟨?_⟩
              have hG_w4 : Grew w3 w4 := (Grew.drew _).trans hR1
              clear hR1
              simp only [Act.put, List.setIfInBounds_toArray, List.set_cons_succ, List.set_cons_zero, dropN, putEach]
              have HG4 := Lib.hid (Grew.trans HG3.out hG_w4)
              clear hG_w4
              have hS4 := HS1.out w4 HG4.out
              have q0 := hS4.cells.at_ 0
              have ff := hS4.cells.fz 0
              simp only [List.getElem?_cons_zero] at q0
              obtain ⟨W5, hW5⟩ : ∃ W5, W5 = w4.setCell ⟨g, 0, none⟩ (.slice A4 l1.length c4) := ⟨_, rfl⟩
              have hu5 : Upd (fun j => j = g) w4 W5 := by rw [hW5]; exact Upd.set (S := fun j => j = g) (p := ⟨g, 0, none⟩) (Upd.refl _ _) (.inl rfl) _
              have hc5 : Blk W5 g 77 [.slice A4 l1.length c4, .int .i64 f, .int .i64 n] := by rw [hW5]; exact hS4.cells.set 0 _
              have q1 := hc5.at_ 1
              have f1_ := hc5.fz 1
              simp only [List.getElem?_cons_zero, List.getElem?_cons_succ] at q1
              have huw5 : Upd (sndS g (.slice A k c)) W1 W5 := (Upd.of_grew HG4.out).trans (hu5.mono fun j _ e => .inl e)
              have hbx5 := HBX.out W5 huw5
              obtain ⟨W6, hW6⟩ : ∃ W6, W6 = W5.setCell ⟨g, 1, none⟩ (.int .i64 N) := ⟨_, rfl⟩
              have hu6 : Upd (fun j => j = g) W5 W6 := by rw [hW6]; exact Upd.set (S := fun j => j = g) (p := ⟨g, 1, none⟩) (Upd.refl _ _) (.inl rfl) _
              have hc6 : Blk W6 g 77 [.slice A4 l1.length c4, .int .i64 N, .int .i64 n] := by rw [hW6]; exact hc5.set 1 _
              have hrw : RowO W6 B 86 8 (.slice A4 l1.length c4) l1.length (sdc l1) := by
                have h0 := HROW.out.grew (w' := w3) (Grew.refl _)
                have h4 : RowO w4 B 86 8 (.slice A4 l1.length c4) l1.length (sdc l1) := by
                  obtain ⟨v'', hrun2, hrow2, hown2⟩ := (hS4.row).cut (P := Try.prog) 75 .i64 Try.underlying75 infoSdI.choose_spec.1 infoSdI.choose_spec.2 m (by rw [← HK.out]; exact hmk)
                  have h9 := HRUN.out w4
                  have h8 := hrun2 w4
                  rw [show (m : Int) = N - f from by have := HMM.out; have := of_decide_eq_true HFB.out; omega, h9] at h8
                  injection h8 with h8
                  subst h8
                  rw [sdc_drop, ← HL1.out, ← HK.out, ← HL1K.out] at hrow2
                  exact hrow2
                have hne := h4.ne hS4.cells (by decide)
                exact (h4.upd hu5 fun j hj e => hne (by rw [hj, e])).upd hu6 fun j hj e => hne (by rw [hj, e])
              have HRES := Lib.hid (show SndM B g (.slice A4 l1.length c4) l1 F2 n W6 from ⟨by rw [HF2N.out]; exact hc6, hrw, hS4.hg⟩)
              have HU6 := Lib.hid (show Upd (sndS g (.slice A k c)) W1 W6 from huw5.trans (hu6.mono fun j _ e => .inl e))
              have HW5 := Lib.hid hW5
              have HW6 := Lib.hid hW6
              obtain ⟨e0, e1, e2, e3, e4⟩ := hbx5
              clear hS4 hu5 hc5 huw5 hu6 hc6 hrw hW5 hW6 e0 e2 e3 e4
              go_upto_region 6 with fail
              rw [← HW5.out]
              clear q0 ff
              go_wp2_with fail
              rw [← HW6.out]
              go_meet
              case rel => exact ⟨_, rfl, HRES.out, HOWN.out, HU6.out⟩
        case rest =>
          obtain ⟨v1, rfl, hI, hown, hu⟩ := hcut
          have hown' : sndS g v1 = sndS g (.slice A k c) := by unfold sndS; rw [hown]
          obtain ⟨k1, hk1⟩ : ∃ k1, k1 = l1.length := ⟨_, rfl⟩
          have HK1 := Lib.hid hk1
          have hk1b : k1 ≤ 100000 := by rw [hk1, HL1K.out]; omega
          obtain ⟨T2, hT2⟩ : ∃ T2, T2 = toldN l1 := ⟨_, rfl⟩
          have HTW := Lib.hid (told_c wc B g v1 l1 F2 n hI (by rw [← hk1]; exact hk1b))
          rw [← hT2] at HTW
          have hT2k : T2 ≤ k1 := by rw [hT2, hk1]; exact toldN_le l1
          obtain ⟨d, hd⟩ : ∃ d, d = N - F2 := ⟨_, rfl⟩
          have hrs2 := Lib.hid (show RS = (markN T2 d bits 16 l1, F2) from by rw [hrs.out, hT2, hd])
          have HI := Lib.hid hI
          have HU := Lib.hid hu
          have HOW := Lib.hid hown
          have HOW2 := Lib.hid hown'
          have HD := Lib.hid hd
          clear hI hu hown hown' hk1 hT2 HTO HS1 HF HC0 hbig wT d1 wNf hmk hl
          go_wp2_with fail
          refine HTW.out.mono ?_
          rintro e w5 ⟨_, rfl, rfl, hg5⟩
          have HG5 := Lib.hid hg5
          clear hg5
          go_wp2_with fail
          go_loopw [5, 63] (fun v5 iv wr => ∃ (i : Nat) (fb' : Bool), iv = .int .i64 (i : Int) ∧ i ≤ 16 ∧ v5 = .bool fb' ∧ SndM B g v1 (markN T2 d bits i l1) F2 n wr ∧ Upd (sndS g (.slice A k c)) W1 wr) (fun _ iv _ => 16 - (intOf iv).toNat)
          case atStart => exact ⟨0, fb, rfl, by omega, rfl, HI.out.grew HG5.out, HU.out.trans (Upd.of_grew HG5.out)⟩
          case round =>
            obtain ⟨i, fb', rfl, hi, rfl, hIr, hur⟩ := hrel
            have HIR := Lib.hid hIr
            have HUR := Lib.hid hur
            clear hIr hur
            by_cases hlt : i < 16
            · have d1 : decide ((i : Int) < 16) = true := decide_eq_true (by omega)
              have d2 : decide (i < 16) = true := decide_eq_true hlt
              have w1_ : IntKind.i64.wrap (N + (i : Int)) = N + (i : Int) := IntWalk.i64_in _ (by omega)
              have hdd : N + (i : Int) - F2 = d + (i : Int) := by omega
              have w2_ : IntKind.i64.wrap (d + (i : Int)) = d + (i : Int) := IntWalk.i64_in _ (by omega)
              have wi : IntKind.i64.wrap ((i : Int) + 1) = (i : Int) + 1 := IntWalk.i64_in _ (by omega)
              have HWI := Lib.hid wi
              have HF1 := Lib.hid (fun wx (h : Grew wr wx) => show wx.cell? ⟨g, 1, none⟩ = some (.int .i64 F2) from by rw [((HIR.out.grew h).cells).at_]; rfl)
              have HBXr := Lib.hid (fun wx (h : Grew wr wx) => HBX.out wx (HUR.out.trans (Upd.of_grew h)))
              clear hd
              go_wp2_with fail
              apply region_grew [Is _, Is _, Is _, Is _, Is _, Is _, Is _, Is _] [([(3, none)], none), ([(66, some 0)], none), ([(7, none)], none), ([(67, some 1), (68, some 2)], none), ([(0, none)], none), ([(70, some 4)], none), ([(71, some 5)], none), ([(72, some 6)], none)] [(66, 0), (67, 1), (68, 2), (69, 3), (70, 4), (71, 5), (72, 6), (73, 7)] rfl (by kernel_rfl) (by kernel_rfl) (show Stable Grew _ from ⟨Is.stable _, Is.stable _, Is.stable _, Is.stable _, Is.stable _, Is.stable _, Is.stable _, Is.stable _, trivial⟩)
              · show OpsHold _ _ _ _ _ _ _ _ _
                refine ⟨fun a_ wx hR hD K hK => ?_, ?_⟩
                · have hG : Grew wr wx := (Grew.drew _).trans hR
                  simp [Deps, Dep, at_, Is] at hD
                  go_simp
                  exact hK _ _ (Grew.refl _) rfl
                refine ⟨fun a_ wx hR hD K hK => ?_, ?_⟩
                · have hG : Grew wr wx := (Grew.drew _).trans hR
                  simp [Deps, Dep, at_, Is] at hD
                  obtain ⟨e0, e1, e2, e3, e4⟩ := HBXr.out wx hG
                  go_simp
                  exact hK _ _ (Grew.refl _) rfl
                refine ⟨fun a_ wx hR hD K hK => ?_, ?_⟩
                · have hG : Grew wr wx := (Grew.drew _).trans hR
                  simp [Deps, Dep, at_, Is] at hD
                  go_simp
                  exact hK _ _ (Grew.refl _) rfl
                refine ⟨fun a_ wx hR hD K hK => ?_, ?_⟩
                · have hG : Grew wr wx := (Grew.drew _).trans hR
                  simp [Deps, Dep, at_, Is] at hD
                  obtain ⟨hd0, hd1⟩ := hD
                  go_simp
                  exact hK _ _ (Grew.refl _) rfl
                refine ⟨fun a_ wx hR hD K hK => ?_, ?_⟩
                · have hG : Grew wr wx := (Grew.drew _).trans hR
                  simp [Deps, Dep, at_, Is] at hD
                  go_simp
                  exact hK _ _ (Grew.refl _) rfl
                refine ⟨fun a_ wx hR hD K hK => ?_, ?_⟩
                · have hG : Grew wr wx := (Grew.drew _).trans hR
                  simp [Deps, Dep, at_, Is] at hD
                  go_simp
                  exact hK _ _ (Grew.refl _) rfl
                refine ⟨fun a_ wx hR hD K hK => ?_, ?_⟩
                · have hG : Grew wr wx := (Grew.drew _).trans hR
                  simp [Deps, Dep, at_, Is] at hD
                  go_simp
                  exact hK _ _ (Grew.refl _) rfl
                refine ⟨fun a_ wx hR hD K hK => ?_, ?_⟩
                · have hG : Grew wr wx := (Grew.drew _).trans hR
                  simp [Deps, Dep, at_, Is] at hD
                  have e_ := HF1.out wx hG
                  go_simp
                  exact hK _ _ (Grew.refl _) rfl
                trivial
              · show EndHold _ _ _ _ _ _ _
                refine end_all (xs := [_, _, _, _, _, _, _, _]) ⟨rfl, rfl, rfl, rfl, rfl, rfl, rfl, rfl, trivial⟩ ?_
                rintro w6 hR1 -
                refine ⟨?_⟩
                have hG_w6 : Grew wr w6 := (Grew.drew _).trans hR1
                clear hR1
                simp only [Act.put, List.setIfInBounds_toArray, List.set_cons_succ, List.set_cons_zero, dropN, putEach]
                have HG6 := Lib.hid hG_w6
                obtain ⟨e0, e1, e2, e3, e4⟩ := HBXr.out w6 hG_w6
                clear hG_w6 e0 e1 e2 e3
                have hband := bit_and bits i hb0 hb1
                have HNXT := Lib.hid (show markN T2 d bits (i + 1) l1 = mark1 T2 d bits i (markN T2 d bits i l1) from rfl)
                have skip : ¬ (bitT bits i = true ∧ 0 ≤ d + (i : Int) ∧ d + (i : Int) < (T2 : Int)) → SndM B g v1 (markN T2 d bits (i + 1) l1) F2 n w6 := fun h => by
                  rw [HNXT.out, mark1_no h]
                  exact HIR.out.grew HG6.out
                have HSK := Lib.hid skip
                clear skip
                cases hbt : bitT bits i with
                | false =>
                  have hb : Go.bits .and .i64 (bits / 2 ^ i) 1 = 0 := by
                    rw [hband]
                    have := of_decide_eq_false hbt
                    omega
                  have HSK2 := Lib.hid (HSK.out (fun h => by rw [h.1] at hbt; cases hbt))
                  clear hband hbt
                  go_wp2_with fail
                  go_roundw
                  case rel => exact ⟨i + 1, fb', by go_num, by omega, rfl, HSK2.out, HUR.out.trans (Upd.of_grew HG6.out)⟩
                  case measure => have wi := HWI.out; simp [intOf, wi]; omega
                | true =>
                  have hb : Go.bits .and .i64 (bits / 2 ^ i) 1 = 1 := by
                    rw [hband]
                    exact of_decide_eq_true hbt
                  have HBT := Lib.hid hbt
                  clear hband hbt
                  by_cases hge : 0 ≤ d + (i : Int)
                  case neg =>
                    have d3 : decide (0 ≤ d + (i : Int)) = false := decide_eq_false hge
                    have HSK2 := Lib.hid (HSK.out (fun h => hge h.2.1))
                    go_wp2_with fail
                    go_roundw
                    case rel => exact ⟨i + 1, fb', by go_num, by omega, rfl, HSK2.out, HUR.out.trans (Upd.of_grew HG6.out)⟩
                    case measure => have wi := HWI.out; simp [intOf, wi]; omega
                  by_cases hlt2 : d + (i : Int) < (T2 : Int)
                  case neg =>
                    have d3 : decide (0 ≤ d + (i : Int)) = true := decide_eq_true hge
                    have d4 : decide (d + (i : Int) < (T2 : Int)) = false := decide_eq_false hlt2
                    have HSK2 := Lib.hid (HSK.out (fun h => hlt2 h.2.2))
                    go_wp2_with fail
                    go_roundw
                    case rel => exact ⟨i + 1, fb', by go_num, by omega, rfl, HSK2.out, HUR.out.trans (Upd.of_grew HG6.out)⟩
                    case measure => have wi := HWI.out; simp [intOf, wi]; omega
                  obtain ⟨j, hj⟩ := Int.eq_ofNat_of_zero_le hge
                  rw [hj] at hlt2
                  have hjT : j < T2 := by omega
                  have hjk : j < k1 := by omega
                  have hlen : (markN T2 d bits i l1).length = k1 := by rw [markN_len, HK1.out]
                  obtain ⟨x, hx⟩ : ∃ x, (markN T2 d bits i l1)[j]? = some x := ⟨_, List.getElem?_eq_getElem (by rw [hlen]; exact hjk)⟩
                  have hI6 := HIR.out.grew HG6.out
                  obtain ⟨g1, o, cap, hv, hcap, hB1, hg1, hcell, hfz⟩ := hI6.row.at_ (by rw [hlen]; omega)
                  have q0 := hI6.cells.at_ 0
                  rw [hv] at q0
                  simp only [List.getElem?_cons_zero] at q0
                  rw [hlen] at q0 hv
                  rw [hlen] at hcell
                  have k7 := hcell (j * 8 + 7) (by omega)
                  rw [sdc_at _ j x hx 7 (by omega), ← Nat.add_assoc] at k7
                  simp only [sdc1, List.getElem?_cons_zero, List.getElem?_cons_succ] at k7
                  have z7 := hfz (o + j * 8 + 7)
                  have d3 : decide ((0 : Int) ≤ (j : Int)) = true := decide_eq_true (by omega)
                  have d4 : decide ((j : Int) < (T2 : Int)) = true := decide_eq_true (by omega)
                  have d4n : decide (j < T2) = true := decide_eq_true hjT
                  have jj : (j : Int) < (k1 : Int) := by omega
                  have hdj : N + (i : Int) - F2 = (j : Int) := by omega
                  have wj : IntKind.i64.wrap (j : Int) = (j : Int) := IntWalk.i64_in _ (by omega)
                  have HX := Lib.hid hx
                  have HV := Lib.hid hv
                  have HJ := Lib.hid hj
                  have HLEN := Lib.hid hlen
                  obtain ⟨x0, x1, x2, x3⟩ := x
                  simp only at k7
                  clear hI6 hcell hfz hlen hx hv hj hge hlt2 hdd hcap hB1 hg1 w2_
                  cases x3 with
                  | true =>
                    have HN6 := Lib.hid (show SndM B g v1 (markN T2 d bits (i + 1) l1) F2 n w6 from by
                      rw [HNXT.out, mark1_yes HBT.out HJ.out hjT, came1_same HX.out rfl]
                      exact HIR.out.grew HG6.out)
                    go_wp2_with fail
                    go_roundw
                    case rel => exact ⟨i + 1, fb', by go_num, by omega, rfl, HN6.out, HUR.out.trans (Upd.of_grew HG6.out)⟩
                    case measure => have wi := HWI.out; simp [intOf, wi]; omega
                  | false =>
                    obtain ⟨W7, hW7⟩ : ∃ W7, W7 = w6.setCell ⟨g1, o + j * 8 + 7, none⟩ (.bool true) := ⟨_, rfl⟩
                    have hown1 : v1.ownBlock = some g1 := by rw [HV.out]; rfl
                    have hu7 : Upd (fun q => q = g1) w6 W7 := by rw [hW7]; exact Upd.set (S := fun q => q = g1) (p := ⟨g1, o + j * 8 + 7, none⟩) (Upd.refl _ _) (.inl rfl) _
                    have hI6 := HIR.out.grew HG6.out
                    have HN7 := Lib.hid (show SndM B g v1 (markN T2 d bits (i + 1) l1) F2 n W7 from by
                      have hne := hI6.ne
                      refine ⟨hI6.cells.upd hu7 (fun e => hne (by rw [hown1, e])), ?_, hI6.hg⟩
                      rw [HNXT.out, mark1_yes HBT.out HJ.out hjT, came1_set HX.out, List.length_set, HLEN.out]
                      have h := hI6.row
                      rw [HLEN.out] at h
                      have h := h.set HV.out (j * 8 + 7) (by omega) (.bool true)
                      rw [sdc_set7 _ j _ true HX.out, ← Nat.add_assoc, ← hW7] at h
                      exact h)
                    have HU7 := Lib.hid (show Upd (sndS g (.slice A k c)) W1 W7 from (HUR.out.trans (Upd.of_grew HG6.out)).trans (hu7.mono fun q _ e => .inr (by rw [← HOW.out, hown1, e])))
                    have HW7 := Lib.hid hW7
                    clear hI6 hu7 hW7 hown1
                    go_wp2_with fail
                    rw [← HW7.out]
                    go_roundw
                    case rel => exact ⟨i + 1, true, by go_num, by omega, rfl, HN7.out, HU7.out⟩
                    case measure => have wi := HWI.out; simp [intOf, wi]; omega
            · obtain rfl : i = 16 := by omega
              have HFIN := Lib.hid (show SndM B g v1 RS.1 RS.2 n wr from by rw [hrs2.out]; exact HIR.out)
              go_wp2_with fail
              go_ret
              exact ⟨fb', v1, rfl, HFIN.out, (Upd.of_grew HG1.out).trans HUR.out, HOW.out⟩
end Go.Proofs.Yteaefambkagpbaa.F

-- LnkR
namespace Go.Proofs.Yteaefambkagpbaa.F
open Go Go.RowKit Go.Proofs.YteaefambkagpbaaW.PrintWords Go.Proofs.YteaefambkagpbaaW.PrintLast Go.Proofs.YteaefambkagpbaaW.PrintMore Go.Proofs.YteaefambkagpbaaM Go.Proofs.YteaefambkagpbaaR
open Go.Maps (Keyed int_keyed keyOf_int_mk)
open Go.ChangeMaps (setBlock modify_eq_set)
set_option linter.unusedSimpArgs false
set_option linter.unusedVariables false
set_option maxRecDepth 100000
def pkV (p : S30) : Value := .agg #[.bool p.f0, .int .i64 p.f1, .bool p.f2, .string p.f3, .int .i64 p.f4]
def zPk : S30 := ⟨false, 0, false, ⟨#[]⟩, 0⟩
theorem law_key : Keyed Try.prog 3 := int_keyed Try.underlying3
/-- the block's entries are those of F -/
def MapE (es : List MapEntry) (F : Int → Option S30) : Prop :=
  (∀ x ∈ es, ∃ (k : Int) (p : S30), x.key = .int .i64 k ∧ (Lit.int .i64 k).wf = true ∧ x.val = pkV p ∧ F k = some p) ∧
  (∀ k p, F k = some p → ∃ x ∈ es, x.key = .int .i64 k) ∧ es.Pairwise (fun x y => x.key ≠ y.key)
def MapP (w : World) (b : Nat) (F : Int → Option S30) : Prop := ∃ es clock, w.heap[b]? = some (.map es clock) ∧ MapE es.toList F
theorem MapP.lt {w : World} {b : Nat} {F : Int → Option S30} (h : MapP w b F) : b < w.heap.size := by
  obtain ⟨es, clock, hb, -⟩ := h
  exact (Array.getElem?_eq_some_iff.1 hb).1
theorem MapP.upd {S : Nat → Prop} {w w' : World} {b : Nat} {F : Int → Option S30} (h : MapP w b F) (hu : Upd S w w') (hn : ¬ S b) : MapP w' b F := by
  have hl := h.lt
  obtain ⟨es, clock, hb, he⟩ := h
  exact ⟨es, clock, (hu.block b hl hn).trans hb, he⟩
theorem MapP.grew {w w' : World} {b : Nat} {F : Int → Option S30} (h : MapP w b F) (hu : Grew w w') : MapP w' b F :=
  h.upd (Upd.of_grew (S := fun _ => False) hu) (fun h => h)
theorem mapP_made (w : World) : MapP (w.alloc (.map #[] 0)) w.heap.size (fun _ => none) :=
  ⟨#[], 0, (MapKept.heap_alloc w _).1, by simp [MapE]⟩
theorem MapE.keys {es : List MapEntry} {F : Int → Option S30} (h : MapE es F) : ∀ e ∈ es, ∃ l, keyOf Try.prog 3 e.key = some l := by
  intro e he
  obtain ⟨k, p, h1, h2, -, -⟩ := h.1 e he
  exact ⟨_, by rw [h1]; exact keyOf_int_mk Try.underlying3 h2⟩
theorem zero_pk (w : World) : (zeroValue 30).run Try.prog w = .ok (pkV zPk) w := by
  simp only [zeroValue, typeInfo]
  kernel_rfl
/-- v, ok := m[k] -/
theorem MapP.look {w : World} {b : Nat} {F : Int → Option S30} (h : MapP w b F) (k : Int) (hk : (Lit.int .i64 k).wf = true) :
    (Instr.lookup 78 (.map (some b)) (.int .i64 k) true).run Try.prog w = .ok (.tuple #[pkV ((F k).getD zPk), .bool (F k).isSome]) w := by
  obtain ⟨es, clock, hb, he⟩ := h
  have hkey := keyOf_int_mk (P := Try.prog) Try.underlying3 hk
  rcases law_key.find w hkey es.toList he.keys with ⟨h1, h2⟩ | ⟨j, e0, h1, h2, h3⟩
  · have hF : F k = none := by
      cases hf : F k with
      | none => rfl
      | some p =>
        obtain ⟨x, hx, hxk⟩ := he.2.1 k p hf
        exact absurd hxk (h2 x hx)
    simp [Instr.lookup, run_underlying Try.underlying78, MapKept.run_getObj_map hb, law_key.check w _ hkey, h1, zero_pk, Result.andThen, hF]
    rfl
  · obtain ⟨k', p, g1, g2, g3, g4⟩ := he.1 e0 (List.mem_of_getElem? h2)
    rw [h3] at g1
    injection g1 with _ g1
    subst g1
    simp [Instr.lookup, run_underlying Try.underlying78, MapKept.run_getObj_map hb, law_key.check w _ hkey, h1, Result.andThen, g3, g4]
theorem upd_setBlock {w : World} {b : Nat} {es : Array MapEntry} {clock : Nat} (hb : w.heap[b]? = some (.map es clock)) (o : Obj) : Upd (fun j => j = b) w (setBlock w b o) :=
  ⟨rfl, rfl, rfl, by simp [setBlock], fun i _ hi => Go.ChangeMaps.heap_setBlock_other hb o hi⟩
abbrev MpF := Int → Option S30
def putF (F : MpF) (k : Int) (p : S30) : MpF := fun j => if j = k then some p else F j
def delF (F : MpF) (k : Int) : MpF := fun j => if j = k then none else F j
theorem putF_at (F : MpF) (k : Int) (p : S30) : putF F k p k = some p := if_pos rfl
theorem putF_ne (F : MpF) {k j : Int} (p : S30) (h : j ≠ k) : putF F k p j = F j := if_neg h
theorem delF_at (F : MpF) (k : Int) : delF F k k = none := if_pos rfl
theorem delF_ne (F : MpF) {k j : Int} (h : j ≠ k) : delF F k j = F j := if_neg h
/-- m[k] = p -/
theorem MapP.put {w : World} {b : Nat} {F : Int → Option S30} (h : MapP w b F) (k : Int) (p : S30) (hk : (Lit.int .i64 k).wf = true) :
    ∃ w', (Instr.mapUpdate 78 (.map (some b)) (.int .i64 k) (pkV p)).run Try.prog w = .ok () w' ∧ MapP w' b (putF F k p) ∧ Upd (fun j => j = b) w w' := by
  obtain ⟨es, clock, hb, he⟩ := h
  have hkey := keyOf_int_mk (P := Try.prog) Try.underlying3 hk
  rcases law_key.find w hkey es.toList he.keys with ⟨h1, h2⟩ | ⟨j, e0, h1, h2, h3⟩
  · refine ⟨setBlock w b (.map (es.push ⟨.int .i64 k, pkV p, clock⟩) (clock + 1)), ?_, ⟨_, _, Go.ChangeMaps.heap_setBlock_same hb _, ?_⟩, upd_setBlock hb _⟩
    · simp [Instr.mapUpdate, run_underlying Try.underlying78, MapKept.run_getObj_map hb, law_key.check w false hkey, h1, MapKept.run_setObj_map _ hb, Result.andThen, setBlock]
    · rw [Array.toList_push]
      refine ⟨fun x hx => ?_, fun k' p' hF => ?_, ?_⟩
      · rcases List.mem_append.1 hx with hx | hx
        · obtain ⟨k', p', g1, g2, g3, g4⟩ := he.1 x hx
          refine ⟨k', p', g1, g2, g3, ?_⟩
          exact (putF_ne F p (fun e => h2 x hx (by rw [g1, e]))).trans g4
        · obtain rfl := List.mem_singleton.1 hx
          exact ⟨k, p, rfl, hk, rfl, putF_at _ _ _⟩
      · by_cases e : k' = k
        · exact ⟨⟨.int .i64 k, pkV p, clock⟩, by simp, by rw [e]⟩
        · rw [putF_ne F p e] at hF
          obtain ⟨x, hx, hxk⟩ := he.2.1 k' p' hF
          exact ⟨x, List.mem_append.2 (.inl hx), hxk⟩
      · refine List.pairwise_append.2 ⟨he.2.2, List.pairwise_singleton _ _, fun x hx y hy => ?_⟩
        obtain rfl := List.mem_singleton.1 hy
        exact h2 x hx
  · have hj : es[j]? = some e0 := by simpa using h2
    obtain ⟨hjl, hje⟩ := List.getElem?_eq_some_iff.1 h2
    refine ⟨setBlock w b (.map (es.modify j (fun e' => { e' with key := .int .i64 k, val := pkV p })) clock), ?_, ⟨_, _, Go.ChangeMaps.heap_setBlock_same hb _, ?_⟩, upd_setBlock hb _⟩
    · simp [Instr.mapUpdate, run_underlying Try.underlying78, MapKept.run_getObj_map hb, law_key.check w false hkey, h1, hj, h3, law_key.stays w hkey, MapKept.run_setObj_map _ hb, Result.andThen, setBlock]
    · have hlist : (es.modify j (fun e' => { e' with key := .int .i64 k, val := pkV p })).toList = es.toList.set j { e0 with key := .int .i64 k, val := pkV p } := by rw [Array.toList_modify, modify_eq_set _ _ _ _ h2]
      rw [hlist]
      have hpw := List.pairwise_iff_getElem.1 he.2.2
      have hne : ∀ (i : Nat) (hi : i < es.toList.length), i ≠ j → es.toList[i].key ≠ .int .i64 k := by
        intro i hi hij e
        rcases Nat.lt_or_gt_of_ne hij with h | h
        · exact hpw i j hi hjl h (by rw [e, hje, h3])
        · exact hpw j i hjl hi h (by rw [e, hje, h3])
      refine ⟨fun x hx => ?_, fun k' p' hF => ?_, ?_⟩
      · obtain ⟨i, hi, rfl⟩ := List.getElem_of_mem hx
        rw [List.getElem_set]
        split
        · exact ⟨k, p, rfl, hk, rfl, putF_at _ _ _⟩
        · rename_i hij
          have hi' : i < es.toList.length := by simpa using hi
          obtain ⟨k', p', g1, g2, g3, g4⟩ := he.1 es.toList[i] (List.getElem_mem hi')
          exact ⟨k', p', g1, g2, g3, (putF_ne F p (fun e => hne i hi' (fun h => hij h.symm) (by rw [g1, e]))).trans g4⟩
      · by_cases e : k' = k
        · exact ⟨{ e0 with key := .int .i64 k, val := pkV p }, List.mem_iff_getElem.2 ⟨j, by simpa using hjl, by simp⟩, by rw [e]⟩
        · rw [putF_ne F p e] at hF
          obtain ⟨x, hx, hxk⟩ := he.2.1 k' p' hF
          obtain ⟨i, hi, hix⟩ := List.getElem_of_mem hx
          have hij : j ≠ i := fun h => by
            subst h
            rw [hix] at hje
            rw [hje, h3] at hxk
            injection hxk with _ hxk
            exact e hxk.symm
          exact ⟨x, List.mem_iff_getElem.2 ⟨i, by simpa using hi, by rw [List.getElem_set_ne hij]; exact hix⟩, hxk⟩
      · refine List.pairwise_iff_getElem.2 fun a c ha hc hac => ?_
        have ha' : a < es.toList.length := by simpa using ha
        have hc' : c < es.toList.length := by simpa using hc
        rw [List.getElem_set, List.getElem_set]
        split
        · rename_i h
          rw [if_neg (by omega)]
          exact fun e => hne c hc' (by omega) e.symm
        · split
          · rename_i h _
            exact hne a ha' (fun e => h e.symm)
          · exact hpw a c ha' hc' hac
/-- delete(m, k) -/
theorem MapP.del {w : World} {b : Nat} {F : Int → Option S30} {ty : TypeId} (h : MapP w b F) (k : Int) (hk : (Lit.int .i64 k).wf = true) :
    ∃ w', (Builtin.delete_ #[78, 3] ty #[.map (some b), .int .i64 k]).run Try.prog w = .ok (.tuple #[]) w' ∧ MapP w' b (delF F k) ∧ Upd (fun j => j = b) w w' := by
  obtain ⟨es, clock, hb, he⟩ := h
  have hkey := keyOf_int_mk (P := Try.prog) Try.underlying3 hk
  rcases law_key.find w hkey es.toList he.keys with ⟨h1, h2⟩ | ⟨j, e0, h1, h2, h3⟩
  · refine ⟨setBlock w b (.map es clock), ?_, ⟨_, _, Go.ChangeMaps.heap_setBlock_same hb _, ?_⟩, upd_setBlock hb _⟩
    · simp [Builtin.delete_, run_underlying Try.underlying78, MapKept.run_getObj_map hb, law_key.check w _ hkey, h1, MapKept.run_setObj_map _ hb, Result.andThen, setBlock]
    · refine ⟨fun x hx => ?_, fun k' p' hF => ?_, he.2.2⟩
      · obtain ⟨k', p', g1, g2, g3, g4⟩ := he.1 x hx
        exact ⟨k', p', g1, g2, g3, (delF_ne F (fun e => h2 x hx (by rw [g1, e]))).trans g4⟩
      · by_cases e : k' = k
        · rw [e, delF_at] at hF; cases hF
        · rw [delF_ne F e] at hF
          exact he.2.1 k' p' hF
  · obtain ⟨hjl, hje⟩ := List.getElem?_eq_some_iff.1 h2
    have hjs : j < es.size := by simpa using hjl
    have hsub : (es.eraseIdxIfInBounds j).toList = es.toList.eraseIdx j := by
      unfold Array.eraseIdxIfInBounds
      rw [dif_pos hjs]
      simp
    refine ⟨setBlock w b (.map (es.eraseIdxIfInBounds j) clock), ?_, ⟨_, _, Go.ChangeMaps.heap_setBlock_same hb _, ?_⟩, upd_setBlock hb _⟩
    · simp [Builtin.delete_, run_underlying Try.underlying78, MapKept.run_getObj_map hb, law_key.check w _ hkey, h1, MapKept.run_setObj_map _ hb, Result.andThen, setBlock]
    · rw [hsub]
      have hpw := List.pairwise_iff_getElem.1 he.2.2
      have hne : ∀ (i : Nat) (hi : i < es.toList.length), i ≠ j → es.toList[i].key ≠ .int .i64 k := by
        intro i hi hij e
        rcases Nat.lt_or_gt_of_ne hij with h | h
        · exact hpw i j hi hjl h (by rw [e, hje, h3])
        · exact hpw j i hjl hi h (by rw [e, hje, h3])
      refine ⟨fun x hx => ?_, fun k' p' hF => ?_, he.2.2.sublist (List.eraseIdx_sublist _ _)⟩
      · obtain ⟨i, hij, hi⟩ := List.mem_eraseIdx_iff_getElem?.1 hx
        obtain ⟨hi', hix⟩ := List.getElem?_eq_some_iff.1 hi
        obtain ⟨k', p', g1, g2, g3, g4⟩ := he.1 x (List.mem_of_getElem? hi)
        exact ⟨k', p', g1, g2, g3, (delF_ne F (fun e => hne i hi' hij (by rw [hix, g1, e]))).trans g4⟩
      · by_cases e : k' = k
        · rw [e, delF_at] at hF; cases hF
        · rw [delF_ne F e] at hF
          obtain ⟨x, hx, hxk⟩ := he.2.1 k' p' hF
          obtain ⟨i, hi, hix⟩ := List.getElem_of_mem hx
          have hij : i ≠ j := fun h => by
            subst h
            rw [hix] at hje
            rw [hje, h3] at hxk
            injection hxk with _ hxk
            exact e hxk.symm
          exact ⟨x, List.mem_eraseIdx_iff_getElem?.2 ⟨i, hij, by rw [List.getElem?_eq_getElem hi, hix]⟩, hxk⟩
end Go.Proofs.Yteaefambkagpbaa.F

-- LnkU
namespace Go.Proofs.Yteaefambkagpbaa.F
open Go Go.RowKit Go.Proofs.YteaefambkagpbaaW.PrintWords Go.Proofs.YteaefambkagpbaaW.PrintLast Go.Proofs.YteaefambkagpbaaW.PrintMore Go.Proofs.YteaefambkagpbaaM Go.Proofs.YteaefambkagpbaaR
attribute [local go_sem] max2_int min2_int max_two min_two
set_option linter.unusedSimpArgs false
set_option linter.unusedVariables false
set_option maxRecDepth 100000
/-- a row of bytes, of one's own -/
def OwnB (base : Nat) (l : List Int) : World → Value → Prop := fun w v => w.ownsRow base 5 1 v l.length (nums .u8 l)
theorem OwnB.less {w : World} {b base : Nat} {n : Nat} {v : Value} {xs : List Value} (h : w.ownsRow b 5 1 v n xs) (hb : base ≤ b) : w.ownsRow base 5 1 v n xs :=
  ⟨h.1, h.2.imp id fun ⟨g, cap, cur, h1, h2, h3⟩ => ⟨g, cap, cur, h1, Nat.le_trans hb h2, h3⟩⟩
theorem blk_shape {w : World} {g : Nat} {t : TypeId} {cs : List Value} (h : Blk w g t cs) : w.shape? g = some (t, cs.length) := by
  unfold Blk at h
  simp [World.shape?, h]
theorem infoBl : (Try.prog.info? 81).map (·.size) = some 2 := by kernel_rfl
theorem liesBl : liesAt Try.prog Try.prog.depth 83 (6 / Try.prog.cellsOf 83) 3 81 1 = true := by kernel_rfl
set_option maxHeartbeats 4000000 in
theorem ccheck_c (w : World) (g : Nat) (c0 c1 c2 bp vb c5 : Value) (h : Blk w g 83 [c0, c1, c2, bp, vb, c5]) (hbp : bp = .pointer none ∨ bp = .pointer (some ⟨g, 3, none⟩)) :
    Calls Try.prog 45 #[.pointer (some ⟨g, 3, none⟩)] w fun e w' => e = .returned (.tuple #[]) ∧ Blk w' g 83 [c0, c1, c2, .pointer (some ⟨g, 3, none⟩), vb, c5] ∧ Upd (fun j => j = g) w w' := by
  have k3 := h.at_ 3
  have f3 := h.fz 3
  simp only [List.getElem?_cons_zero, List.getElem?_cons_succ] at k3
  have hsh := blk_shape h
  rcases hbp with rfl | rfl
  · have hset := h.set 3 (.pointer (some ⟨g, 3, none⟩))
    simp only [List.set_cons_zero, List.set_cons_succ] at hset
    have hu : Upd (fun j => j = g) w (w.setCell ⟨g, 3, none⟩ (.pointer (some ⟨g, 3, none⟩))) := Upd.set (S := fun j => j = g) (p := ⟨g, 3, none⟩) (Upd.refl _ _) (.inl rfl) _
    have HS := Lib.hid (And.intro hset hu)
    clear hset hu
    obtain ⟨jb, hjb, hjs⟩ := Option.map_eq_some_iff.1 infoBl
    have r1 := Lib.run_to_unsafe (w := w) (⟨g, 3, none⟩ : Addr) Try.underlying79 Try.underlying97 hjb (by rw [hjs]; decide) hsh (show 3 < 6 by decide)
    have r2 : (callFunc 46 #[.pointer (some ⟨g, 3, none⟩)]).run Try.prog w = .ok (.value (.pointer (some ⟨g, 3, none⟩))) w := by
      rw [run_callFunc_extern Try.func46 (by kernel_rfl) (by kernel_rfl) (by kernel_rfl) (e := Extern.AbiNoEscape.same) (by kernel_rfl), Lib.run_noEscape]
      rfl
    have r3 := Lib.run_from_unsafe (w := w) (⟨g, 3, none⟩ : Addr) Try.underlying97 Try.underlying79 hjb hsh liesBl
    clear h hsh hjb hjs
    go_enter Try.func45, Try.ntmps45
    go_wp2_with fail
    go_end0
    exact ⟨rfl, HS.out.1, HS.out.2⟩
  · obtain ⟨jb, hjb, hjs⟩ := Option.map_eq_some_iff.1 infoBl
    have r1 := Lib.run_neq_ptr_same (w := w) (⟨g, 3, none⟩ : Addr) Try.underlying79 hjb
    clear hjb hjs hsh
    have HH := Lib.hid h
    clear h
    go_enter Try.func45, Try.ntmps45
    go_wp2_with fail
    go_end0
    exact ⟨rfl, HH.out, Upd.refl _ _⟩
theorem app_strB (w : World) (base : Nat) (ty : TypeId) (v : Value) (xs : List Int) (hown : OwnB base xs w v) (s : ByteArray) (hbytes : xs.length + s.size ≤ 140737488355328) (hbase : base ≤ w.heap.size) :
    ∃ v' w', (Builtin.append_ #[24, 9] ty #[v, .string s]).run Try.prog w = .ok v' w' ∧ OwnB base (xs ++ bytesOf s) w' v' ∧ Upd (fun j => v.ownBlock = some j) w w' ∧ (v'.ownBlock = v.ownBlock ∨ ∃ k, v'.ownBlock = some k ∧ w.heap.size ≤ k) ∧ (v' = .slice none 0 0 ↔ v = .slice none 0 0 ∧ s.size = 0) := by
  obtain ⟨i0, hi, hzz⟩ := Option.map_eq_some_iff.1 info5
  simp only [Prod.mk.injEq] at hzz
  obtain ⟨hz0, hz1, hz2⟩ := hzz
  have hcells : Lib.strCells s = nums .u8 (bytesOf s) := by simp [nums, bytesOf, Lib.strCells]
  have hxl : (nums .u8 xs).length = xs.length := by simp [nums]
  have fin : ∀ v' w', w'.ownsRow base 5 1 v' (xs.length + s.size) (nums .u8 xs ++ Lib.strCells s) → OwnB base (xs ++ bytesOf s) w' v' := by
    intro v' w' h
    unfold OwnB
    rw [List.length_append, bytesOf_length, nums_append, ← hcells]
    exact h
  rcases hown.2 with ⟨rfl, hn⟩ | ⟨g, cap, cur, rfl, hbg, hg, hnc, hcm, hcs, htake⟩
  · have hx : xs = [] := List.eq_nil_of_length_eq_zero hn
    subst hx
    obtain ⟨v', w', hr, h2, h3, h4⟩ := Lib.run_append_own_string (P := Try.prog) w w.heap.size 24 9 ty 5 i0 Try.underlying24 Try.underlying9 hi hz0 hz1 hz2 (.slice none 0 0) 0 [] (World.ownsRow_nil _ _ _ _) s (by unfold maxLen; simp at hbytes; omega) (by simpa using hbytes) (Nat.le_refl _)
    refine ⟨v', w', hr, ?_, (Upd.refl _ w).grown h3 fun k hk => .inl hk, ?_, h4⟩
    · refine fin v' w' ?_
      simp only [List.length_nil, nums, List.map_nil, List.nil_append] at h2 ⊢
      exact OwnB.less h2 hbase
    · rcases h2.2 with ⟨rfl, _⟩ | ⟨g', cap', cur', rfl, hb', _⟩
      · exact .inl rfl
      · exact .inr ⟨g', rfl, hb'⟩
  · obtain ⟨v', w', hr, h2, h3, h4⟩ := Lib.run_append_own_string (P := Try.prog) w base 24 9 ty 5 i0 Try.underlying24 Try.underlying9 hi hz0 hz1 hz2 _ _ _ hown s (by unfold maxLen; omega) hbytes hbase
    refine ⟨v', w', hr, fin v' w' h2, (Upd.refl _ w).grown h3 fun k hk => .inl hk, ?_, h4⟩
    by_cases hroom : xs.length + s.size ≤ cap
    · have hr2 := Lib.run_append_room_string (P := Try.prog) w 24 9 ty 5 i0 Try.underlying24 Try.underlying9 hi hz1 g xs.length cap cur hg s hroom (by have h9 : cur.size = cap := (by simpa using hcs); omega)
      rw [hr] at hr2
      injection hr2 with hr2
      rw [hr2]
      exact .inl rfl
    · have holds : ∀ j u, (nums .u8 xs)[j]? = some u → w.cell? ((⟨g, 0, none⟩ : Addr).add j) = some u := hown.cells (g := g) rfl
      have hr2 := Lib.run_append_grow_string (P := Try.prog) w 24 9 ty 5 i0 (.int .u8 0) Try.underlying24 Try.underlying9 hi hz0 ⟨g, 0, none⟩ xs.length cap (nums .u8 xs) (by rw [hz1, hxl]; simp) holds s (by omega) (by omega) (by rw [hz2]; exact growslice_fits (by omega) (by omega))
      rw [hr] at hr2
      injection hr2 with hr2
      rw [hr2]
      exact .inr ⟨_, rfl, Nat.le_refl _⟩
def WstrD (B g : Nat) (c0 c1 c2 vb c5 : Value) (xs : List Int) (s : ByteArray) (w : World) (e : Ending) (w' : World) : Prop :=
  e = .returned (.tuple #[.int .i64 (s.size : Int), .nilIface]) ∧ ∃ vb', Blk w' g 83 [c0, c1, c2, .pointer (some ⟨g, 3, none⟩), vb', c5] ∧ OwnB B (xs ++ bytesOf s) w' vb' ∧ Upd (fun j => j = g ∨ vb.ownBlock = some j) w w' ∧ (vb'.ownBlock = vb.ownBlock ∨ ∃ k, vb'.ownBlock = some k ∧ w.heap.size ≤ k) ∧ (vb = .slice none 0 0 → s.size = 0 → vb' = .slice none 0 0)
set_option maxHeartbeats 4000000 in
theorem wstr_c (w : World) (B g : Nat) (c0 c1 c2 bp vb c5 : Value) (xs : List Int) (s : ByteArray) (h : Blk w g 83 [c0, c1, c2, bp, vb, c5]) (hbp : bp = .pointer none ∨ bp = .pointer (some ⟨g, 3, none⟩)) (ho : OwnB B xs w vb) (hbytes : xs.length + s.size ≤ 140737488355328) (hB : B ≤ w.heap.size) :
    Calls Try.prog 40 #[.pointer (some ⟨g, 3, none⟩), .string s] w (WstrD B g c0 c1 c2 vb c5 xs s w) := by
  have HCC := Lib.hid (ccheck_c w g c0 c1 c2 bp vb c5 h hbp)
  have HO := Lib.hid ho
  have hne := (rowO_of_own ho).ne h (by decide)
  have HNE := Lib.hid hne
  have HBY := Lib.hid hbytes
  have HBB := Lib.hid hB
  clear h hbp ho hne hbytes hB
  go_enter Try.func40, Try.ntmps40
  go_wp2_with fail
  refine HCC.out.mono ?_
  rintro e w1 ⟨rfl, hb1, hu1⟩
  have ho1 : OwnB B xs w1 vb := hu1.own HO.out fun j hj e => HNE.out (by rw [hj, e])
  obtain ⟨A, c, rfl⟩ := own_slice ho1
  have k4 := hb1.at_ 4
  simp only [List.getElem?_cons_zero, List.getElem?_cons_succ] at k4
  obtain ⟨v', w2, hr, hown2, hu2, hat, hnil⟩ := app_strB w1 B 24 _ xs ho1 s HBY.out (Nat.le_trans HBB.out hu1.size)
  have hb2 := hb1.upd hu2 HNE.out
  have f4 := hb2.fz 4
  have k42 := hb2.at_ 4
  simp only [List.getElem?_cons_zero, List.getElem?_cons_succ] at k42
  obtain ⟨A2, c2_, hv2⟩ := own_slice hown2
  obtain ⟨yl, hyl⟩ : ∃ yl, yl = (xs ++ bytesOf s).length := ⟨_, rfl⟩
  rw [← hyl] at hv2
  have hne2 := (rowO_of_own hown2).ne hb2 (by decide)
  have hb3 := hb2.set 4 v'
  simp only [List.set_cons_zero, List.set_cons_succ] at hb3
  have hu3 : Upd (fun j => j = g) w2 (w2.setCell ⟨g, 4, none⟩ v') := Upd.set (S := fun j => j = g) (p := ⟨g, 4, none⟩) (Upd.refl _ _) (.inl rfl) _
  have hown3 : OwnB B (xs ++ bytesOf s) (w2.setCell ⟨g, 4, none⟩ v') v' := hu3.own hown2 fun j hj e => hne2 (by rw [hj, e])
  have HFIN := Lib.hid (show WstrD B g c0 c1 c2 (.slice A xs.length c) c5 xs s w (.returned (.tuple #[.int .i64 (s.size : Int), .nilIface])) (w2.setCell ⟨g, 4, none⟩ v') from
    ⟨rfl, v', hb3, hown3, ((hu1.mono fun j _ e => .inl e).trans (hu2.mono fun j _ e => .inr e)).trans (hu3.mono fun j _ e => .inl e), hat.imp id fun ⟨k, h1, h2⟩ => ⟨k, h1, Nat.le_trans hu1.size h2⟩, fun h1 h2 => hnil.2 ⟨h1, h2⟩⟩)
  subst hv2
  clear hyl
  clear hnil
  clear hb1 hu1 ho1 hown2 hu2 hat hb2 hne2 hb3 hu3 hown3
  go_wp2_with (at_builtin; refine wpList_app2 (by rfl) _ _ _ _ (by rfl) (by rfl) (by rfl) hr ?_)
  go_ret2
  exact HFIN.out
theorem reset_c (w : World) (g : Nat) (c0 c1 c2 bp vb c5 : Value) (h : Blk w g 83 [c0, c1, c2, bp, vb, c5]) :
    Calls Try.prog 42 #[.pointer (some ⟨g, 3, none⟩)] w fun e w' => e = .returned (.tuple #[]) ∧ Blk w' g 83 [c0, c1, c2, .pointer none, .slice none 0 0, c5] ∧ Upd (fun j => j = g) w w' := by
  have k3 := h.at_ 3
  have f3 := h.fz 3
  have h2 := h.set 3 (.pointer none)
  have k4 := h2.at_ 4
  have f4 := h2.fz 4
  have h3 := h2.set 4 (.slice none 0 0)
  simp only [List.set_cons_zero, List.set_cons_succ] at h3
  simp only [List.getElem?_cons_zero, List.getElem?_cons_succ, List.set_cons_zero, List.set_cons_succ] at k3 k4
  have hu : Upd (fun j => j = g) w ((w.setCell ⟨g, 3, none⟩ (.pointer none)).setCell ⟨g, 4, none⟩ (.slice none 0 0)) := Upd.set (S := fun j => j = g) (p := ⟨g, 4, none⟩) (Upd.set (S := fun j => j = g) (p := ⟨g, 3, none⟩) (Upd.refl _ _) (.inl rfl) _) (.inl rfl) _
  have HH := Lib.hid (And.intro h3 hu)
  clear h h2 h3 hu
  go_enter Try.func42, Try.ntmps42
  go_wp2_with fail
  go_end0
  exact ⟨rfl, HH.out.1, HH.out.2⟩
theorem upd_freeze (w : World) (a : Addr) (n : Nat) : Upd (fun j => j = a.block) w (w.freeze a n) := by
  unfold World.freeze
  split
  · exact Upd.refl _ _
  · refine ⟨rfl, rfl, rfl, by simp, fun i _ hi => ?_⟩
    simp only [Array.getElem?_modify]
    rw [if_neg (fun e => hi e.symm)]
end Go.Proofs.Yteaefambkagpbaa.F

-- LnkV
namespace Go.Proofs.Yteaefambkagpbaa.F
open Go Go.RowKit Go.Proofs.YteaefambkagpbaaW.PrintWords Go.Proofs.YteaefambkagpbaaW.PrintLast Go.Proofs.YteaefambkagpbaaW.PrintMore Go.Proofs.YteaefambkagpbaaM Go.Proofs.YteaefambkagpbaaR
attribute [local go_sem] max2_int min2_int max_two min_two
set_option linter.unusedSimpArgs false
set_option linter.unusedVariables false
set_option maxRecDepth 100000
def strs (l : List ByteArray) : List Value := l.map Value.string
/-- the receiver in memory: its block g, its map's block m, the rows of whole messages and of the builder's bytes -/
structure RcvM (B g m : Nat) (vw bp vb : Value) (gap : Int) (F : MpF) (whole : List ByteArray) (buf : ByteArray) (n : Int) (w : World) : Prop where
  cells : Blk w g 83 [.int .i64 gap, .map (some m), vw, bp, vb, .int .i64 n]
  map : MapP w m F
  row : RowO w B 9 1 vw whole.length (strs whole)
  own : OwnB B (bytesOf buf) w vb
  addr : bp = .pointer none ∨ bp = .pointer (some ⟨g, 3, none⟩)
  nil : buf.size = 0 → vb = .slice none 0 0
  hg : B ≤ g
  hm : B ≤ m
/-- its blocks -/
def rcvS (g m : Nat) (vw vb : Value) : Nat → Prop := fun k => k = g ∨ k = m ∨ vw.ownBlock = some k ∨ vb.ownBlock = some k
theorem MapP.ne_blk {w : World} {b g : Nat} {F : MpF} {t : TypeId} {cs : List Value} (h : MapP w b F) (hb : Blk w g t cs) : b ≠ g := by
  obtain ⟨es, clock, h1, -⟩ := h
  intro e
  subst e
  unfold Blk at hb
  rw [hb] at h1
  cases h1
theorem MapP.ne_row {w : World} {b base size n : Nat} {F : MpF} {t : TypeId} {v : Value} {cs : List Value} (h : MapP w b F) (hr : RowO w base t size v n cs) : v.ownBlock ≠ some b := by
  intro e
  obtain ⟨es, clock, h1, -⟩ := h
  rcases hr.2 with ⟨rfl, _⟩ | ⟨g, o, cap, cur, rfl, hb, hh, _⟩
  · simp [Value.ownBlock] at e
  · have : g = b := by simpa [Value.ownBlock] using e
    subst this
    rw [hh] at h1
    cases h1
section
variable {B g m : Nat} {vw bp vb : Value} {gap : Int} {F : MpF} {whole : List ByteArray} {buf : ByteArray} {n : Int} {w w' : World}
theorem RcvM.far {S : Nat → Prop} (h : RcvM B g m vw bp vb gap F whole buf n w) (hu : Upd S w w') (hn : ∀ k, rcvS g m vw vb k → ¬ S k) : RcvM B g m vw bp vb gap F whole buf n w' :=
  ⟨h.cells.upd hu (hn g (.inl rfl)), h.map.upd hu (hn m (.inr (.inl rfl))), h.row.upd hu fun k hk => hn k (.inr (.inr (.inl hk))), hu.own h.own fun k hk => hn k (.inr (.inr (.inr hk))), h.addr, h.nil, h.hg, h.hm⟩
theorem RcvM.grew (h : RcvM B g m vw bp vb gap F whole buf n w) (hu : Grew w w') : RcvM B g m vw bp vb gap F whole buf n w' :=
  h.far (Upd.of_grew (S := fun _ => False) hu) fun _ _ h => h
theorem RcvM.lt (h : RcvM B g m vw bp vb gap F whole buf n w) : ∀ k, rcvS g m vw vb k → k < w.heap.size := by
  intro k hk
  rcases hk with rfl | rfl | hk | hk
  · exact h.cells.lt
  · exact h.map.lt
  · exact h.row.lt k hk
  · exact own_lt h.own k hk
end
/-- a receiver that was made by the call -/
def RcvV (B : Nat) : World → Value → Prop := fun w v => ∃ g m, v = .pointer (some ⟨g, 0, none⟩) ∧ RcvM B g m (.slice none 0 0) (.pointer none) (.slice none 0 0) 0 (fun _ => none) [] ⟨#[]⟩ 0 w
theorem rnew_c (w : World) : Calls Try.prog 18 #[] w (Tells w (RcvV w.heap.size)) := by
  have r1 := run_makeMap (P := Try.prog) 78 w
  have hm := mapP_made w
  have HM := Lib.hid hm
  clear hm
  go_enter Try.func18, Try.ntmps18
  go_wp2_with fail
  go_ret
  have e : (w.alloc (.map #[] 0)).heap.size = w.heap.size + 1 := by simp
  have hb := Blk.new (w.alloc (.map #[] 0)) 83 [.int .i64 0, .map (some w.heap.size), .slice none 0 0, .pointer none, .slice none 0 0, .int .i64 0]
  rw [e] at hb
  exact ⟨_, rfl, ⟨w.heap.size + 1, w.heap.size, rfl, ⟨hb, HM.out.grew (Grew.alloc _ _), rowO_nil _ _ _ _, World.ownsRow_nil _ _ _ _, .inl rfl, fun _ => rfl, by omega, Nat.le_refl _⟩⟩, Grew.trans (Grew.alloc _ _) (Grew.alloc _ _)⟩
def NextV (l : List ByteArray) : Value := match l with
  | [] => .tuple #[.string ⟨#[]⟩, .bool false]
  | x :: _ => .tuple #[.string x, .bool true]
def RnextD (B g m : Nat) (vw bp vb : Value) (gap : Int) (F : MpF) (whole : List ByteArray) (buf : ByteArray) (n : Int) (w : World) (e : Ending) (w' : World) : Prop :=
  ∃ vw', e = .returned (NextV whole) ∧ RcvM B g m vw' bp vb gap F whole.tail buf n w' ∧ Upd (fun j => j = g) w w' ∧ vw'.ownBlock = vw.ownBlock
set_option maxHeartbeats 4000000 in
theorem rnext_c (w : World) (B g m : Nat) (vw bp vb : Value) (gap : Int) (F : MpF) (whole : List ByteArray) (buf : ByteArray) (n : Int) (h : RcvM B g m vw bp vb gap F whole buf n w) (hl : whole.length ≤ 100000) :
    Calls Try.prog 21 #[.pointer (some ⟨g, 0, none⟩)] w (RnextD B g m vw bp vb gap F whole buf n w) := by
  obtain ⟨A, c, rfl, hc⟩ := h.row.slice
  have k2 := h.cells.at_ 2
  simp only [List.getElem?_cons_zero, List.getElem?_cons_succ] at k2
  cases whole with
  | nil =>
    have HH := Lib.hid h
    simp only [List.length_nil] at k2 HH ⊢
    clear h hc
    go_enter Try.func21, Try.ntmps21
    go_wp2_with fail
    go_ret2
    exact ⟨_, rfl, HH.out, Upd.refl _ _, rfl⟩
  | cons x whole =>
    obtain ⟨ii, hii, hsz⟩ : ∃ i : TypeInfo, Try.prog.info? 9 = some i ∧ i.size = 1 := by
      obtain ⟨i, hi, hz⟩ := Option.map_eq_some_iff.1 info9
      injection hz with h1 h2
      injection h2 with h2 h3
      exact ⟨i, hi, h2⟩
    obtain ⟨v', hrun, hrow', hown'⟩ := (h.row).cut (P := Try.prog) 40 .i64 Try.underlying40 hii hsz 1 (by simp)
    obtain ⟨g1, o, cap, hv, hcap, hB1, hg1, hcell, hfz⟩ := h.row.at_ (by simp)
    injection hv with hv1 hv2 hv3
    subst hv1 hv3
    have k0 := hcell 0 (by simp)
    simp only [strs, List.map_cons, List.getElem?_cons_zero, Nat.add_zero] at k0
    have hset := h.cells.set 2 v'
    have f2 := h.cells.fz 2
    simp only [List.set_cons_zero, List.set_cons_succ] at hset
    have hu : Upd (fun j => j = g) w (w.setCell ⟨g, 2, none⟩ v') := Upd.set (S := fun j => j = g) (p := ⟨g, 2, none⟩) (Upd.refl _ _) (.inl rfl) _
    have hne1 := h.row.ne h.cells (by decide)
    have hne2 := (rowO_of_own h.own).ne h.cells (by decide)
    have hne3 := h.map.ne_blk h.cells
    have hr2 : RowO (w.setCell ⟨g, 2, none⟩ v') B 9 1 v' whole.length (strs whole) := by
      have h9 : RowO w B 9 1 v' whole.length (strs whole) := by
        simpa [strs] using hrow'
      exact h9.upd hu fun j hj e => hne1 (by rw [← hown', hj, e])
    have HFIN := Lib.hid (show RnextD B g m (.slice (some ⟨g1, o, none⟩) (x :: whole).length c) bp vb gap F (x :: whole) buf n w (.returned (.tuple #[.string x, .bool true])) (w.setCell ⟨g, 2, none⟩ v') from
      ⟨v', rfl, ⟨hset, h.map.upd hu (fun e => hne3 e), hr2, hu.own h.own fun j hj e => hne2 (by rw [hj, e]), h.addr, h.nil, h.hg, h.hm⟩, hu, hown'⟩)
    obtain ⟨wl, hwl⟩ : ∃ wl, wl = (x :: whole).length := ⟨_, rfl⟩
    have hwp : 0 < wl := by rw [hwl]; simp
    have hw0 : ((wl : Int) == 0) = false := by simp; omega
    have hw1 : (wl == 0) = false := by simp; omega
    have i1 : (0 : Int) < (wl : Int) := by omega
    have d1 : decide ((0 : Int) < (wl : Int)) = true := decide_eq_true i1
    have hr1 := hrun w
    rw [show ((1 : Nat) : Int) = 1 from rfl] at hr1
    rw [← hwl] at k2 hr1 HFIN ⊢
    obtain ⟨A2, c2, hv2, -⟩ := hr2.slice
    rw [hv2] at hr1 HFIN
    clear h hc hrun hrow' hown' hcell hfz hset hu hne1 hne2 hne3 hr2 hwl hii hsz hcap hB1 hg1 hv2
    go_enter Try.func21, Try.ntmps21
    go_wp2_with fail
    go_ret2
    exact HFIN.out
end Go.Proofs.Yteaefambkagpbaa.F

-- RegQ
namespace Go.Proofs.YteaefambkagpbaaR
open Go Go.RowKit
set_option linter.unusedSimpArgs false
set_option linter.unusedVariables false
section
variable (P : Program) (Q : Exit → Act → World → Prop) (R : World → World → Prop) (Rp : Act → World → World → Prop) (V : Nat → World → Value → Prop) (a0 : Act) (w0 : World) (E : Act → World → Prop)
def PhGoalQ (o : Oper) (g : GuardT) (i : Nat) (r : Reads) : Phase → Prop
  | .plain => ∀ a w, R w0 w → Deps V a0 a w r → OpGoal P Q R V o g i a w
  | .float => ∀ a w, Deps V a0 a w r → OpGoal P Q (fun w w' => w' = w) V o g i a w
  | .big => o.guard = none ∧ ∀ a w, R w0 w → Deps V a0 a w r → ∀ K : Act → World → Prop, (∀ v w', Rp (a.put o.dst v) w w' → V i w' v → K (a.put o.dst v) w') → o.wp P a w K Q
def PhHoldQ : Nat → List Oper → List (Reads × GuardT) → List Phase → Prop
  | i, o :: os, (r, g) :: rs, k :: ks => PhGoalQ P Q R Rp V a0 w0 o g i r k ∧ PhHoldQ (i + 1) os rs ks
  | _, _, _, _ => True
end

section
variable {P : Program} {ops : Array Oper} {Q : Exit → Act → World → Prop} {R : World → World → Prop} {Rp : Act → World → World → Prop} {V : Nat → World → Value → Prop} {a0 : Act} {w0 : World} {E : Act → World → Prop}
theorem phHold_atQ : ∀ (os : List Oper) (rs : List (Reads × GuardT)) (ks : List Phase) (k i : Nat) (o : Oper) (r : Reads) (g : GuardT) (p : Phase), PhHoldQ P Q R Rp V a0 w0 k os rs ks → os[i]? = some o → rs[i]? = some (r, g) → ks[i]? = some p →
    PhGoalQ P Q R Rp V a0 w0 o g (k + i) r p
  | [], _, _, _, i, o, r, g, p, _, ho, _, _ => by simp at ho
  | o' :: os, [], _, _, i, o, r, g, p, _, _, hr, _ => by simp at hr
  | o' :: os, (r', g') :: rs, [], _, i, o, r, g, p, _, _, _, hk => by simp at hk
  | o' :: os, (r', g') :: rs, p' :: ks, k, 0, o, r, g, p, h, ho, hr, hk => by
    simp at ho hr hk
    obtain ⟨rfl, rfl⟩ := hr
    subst ho
    subst hk
    exact h.1
  | o' :: os, (r', g') :: rs, p' :: ks, k, i + 1, o, r, g, p, h, ho, hr, hk => by
    have := phHold_atQ os rs ks (k + 1) i o r g p h.2 (by simpa using ho) (by simpa using hr) (by simpa using hk)
    rw [show k + 1 + i = k + (i + 1) from by omega] at this
    exact this
/-- what is known between two operations -/
structure InvQ (ops : Array Oper) (m : Nat) (R : World → World → Prop) (Rp : Act → World → World → Prop) (V : Nat → World → Value → Prop) (ks : List Phase) (a0 : Act) (w0 : World) (listed : Array Bool) (a : Act) (w : World) : Prop where
  early : ¬ BigIn ks listed → R w0 w
  late : BigIn ks listed → ∃ w1, R w0 w1 ∧ Rp a w1 w
  size : a.tmps.size = a0.tmps.size
  defers : a.defers = a0.defers
  lsize : listed.size = ops.size
  closed : Closed ops listed
  tail : ∀ j, m ≤ j → listed.getD j false = false
  tmps : ∀ t, match lastW ops (fun j => listed.getD j false) t with
    | some j => V j w (a.tmps[t]?.getD undef)
    | none => a.tmps[t]?.getD undef = a0.tmps[t]?.getD undef
theorem wpAny_invQ {A : List Nat} {reads : List (Reads × GuardT)} {ks : List Phase} (hA : edgesOk ops A = true) (hP : pairsOk ops A = true) (hR : readsOk ops reads a0.tmps.size = true) (hT : tailOk ops A reads.length = true)
    (hrf : ∀ w, R w w) (htr : ∀ a b c, R a b → R b c → R a c) (hK : phaseOk A ks reads.length = true)
    (hst : ∀ i, ks[i]? ≠ some .big → ∀ w w' v, R w w' ∨ (∃ a, Rp a w w') → V i w v → V i w' v)
    (hfl : ∀ (i : Nat) (o : Oper), ks[i]? = some .float → ops[i]? = some o → ∀ a w1 w v, Rp a w1 w → Rp (a.put o.dst v) w1 w)
    (hops : PhHoldQ P Q R Rp V a0 w0 0 ops.toList reads ks)
    (hend : ∀ listed a w, (∀ j, listed.getD j false = decide (j < reads.length)) → InvQ ops reads.length R Rp V ks a0 w0 listed a w → wpList P ops Q (ops.toList.drop reads.length) a w) :
    ∀ (fuel : Nat) (listed : Array Bool) (a : Act) (w : World), listed.toList.count false ≤ fuel → InvQ ops reads.length R Rp V ks a0 w0 listed a w → wpAny P .any ops Q fuel listed a w := by
  have hT0 := hT
  simp only [tailOk, Bool.and_eq_true, decide_eq_true_eq, List.all_eq_true, Bool.or_eq_true, List.mem_range] at hT0
  -- when all of the head has come up
  have fin : ∀ (fuel : Nat) (listed : Array Bool) (a : Act) (w : World), listed.toList.count false ≤ fuel → InvQ ops reads.length R Rp V ks a0 w0 listed a w → (∀ j, j < reads.length → listed.getD j false = true) → wpAny P .any ops Q fuel listed a w := by
    intro fuel listed a w hf hi hall
    have hl : ∀ j, listed.getD j false = decide (j < reads.length) := by
      intro j
      rcases Nat.lt_or_ge j reads.length with h | h
      · rw [hall j h]; simp [h]
      · rw [hi.tail j h]; simp; omega
    refine wpAny_tail hA hT fuel reads.length listed a w (Nat.le_refl _) ?_ hT0.1 hi.lsize hl (hend listed a w hl hi)
    -- those that are not listed are as many as the tail is long
    have : (listed.toList.drop reads.length).count false = listed.size - reads.length := by
      have h1 : listed.toList.drop reads.length = List.replicate (listed.size - reads.length) false := by
        refine List.ext_getElem (by simp) fun j h1 h2 => ?_
        simp only [List.getElem_drop, List.getElem_replicate]
        have h3 : reads.length + j < listed.size := by simp at h1; omega
        have h4 := hi.tail (reads.length + j) (by omega)
        simpa [h3] using h4
      rw [h1, List.count_replicate_self]
    have h2 : (listed.toList.drop reads.length).count false ≤ listed.toList.count false := List.Sublist.count_le _ (List.drop_sublist _ _)
    have := hi.lsize
    omega
  -- before that, nothing of the tail may come up
  have low : ∀ (listed : Array Bool), listed.size = ops.size → Closed ops listed → ∀ i, i ∈ Region.ready .any ops listed → reads.length ≤ i → ∀ j, j < reads.length → listed.getD j false = true := by
    intro listed hs hc i hi hm j hj
    obtain ⟨hun, o, ho, hd⟩ := mem_ready.1 hi
    have hisz := (Array.getElem?_eq_some_iff.1 ho).1
    exact closed_anc hA hc i o ho hd j ((hT0.2 i hisz).resolve_left (by omega) j (by omega))
  intro fuel
  induction fuel with
  | zero =>
    intro listed a w hf hi
    refine fin 0 listed a w hf hi fun j hj => ?_
    have hjs : j < listed.size := by have := hi.lsize; omega
    cases hl : listed.getD j false with
    | true => rfl
    | false =>
      exfalso
      have hv : listed[j] = false := by simpa [hjs] using hl
      have : 0 < listed.toList.count false := List.count_pos_iff.2 (by rw [← hv]; simp)
      omega
  | succ fuel ih =>
    intro listed a w hf hi
    by_cases hall : ∀ j, j < reads.length → listed.getD j false = true
    · exact fin (fuel + 1) listed a w hf hi hall
    refine ⟨fun h => absurd (fun j hj => all_of_ready rfl hA hi.lsize h j (by omega)) hall, fun i hir => ?_⟩
    have him : i < reads.length := by
      rcases Nat.lt_or_ge i reads.length with h | h
      · exact h
      · exact absurd (low listed hi.lsize hi.closed i hir h) hall
    obtain ⟨hun, o, ho, hdeps⟩ := mem_ready.1 hir
    have hisz : i < ops.size := (Array.getElem?_eq_some_iff.1 ho).1
    have hun' : listed.getD i false = false := by rw [getD_irrel (by rw [hi.lsize]; exact hisz) false true]; exact hun
    simp only [readsOk, List.all_eq_true] at hR
    have hRi := hR i (List.mem_range.2 him)
    have hri : reads[i]? = some (reads[i]'(by omega)) := List.getElem?_eq_getElem (by omega)
    generalize hrg : reads[i]'(by omega) = rg at hri
    obtain ⟨r, g⟩ := rg
    rw [ho, hri] at hRi
    simp only [Bool.and_eq_true, List.all_eq_true] at hRi
    obtain ⟨⟨hr, hdst⟩, hg⟩ := hRi
    -- ancestors of i are listed; descendants are not
    have hanc : ∀ k, (A.getD i 0).testBit k = true → listed.getD k false = true := closed_anc hA hi.closed i o ho hdeps
    have hdesc : ∀ j oj, ops[j]? = some oj → (A.getD j 0).testBit i = true → listed.getD j false = false := by
      intro j oj hoj hb
      cases hl : listed.getD j false with
      | false => rfl
      | true =>
        have := closed_anc hA hi.closed j oj hoj (hi.closed j oj hoj hl) i hb
        rw [this] at hun'; cases hun'
    have pair : ∀ i' j' oi' oj', i' < j' → ops[i']? = some oi' → ops[j']? = some oj' → (A.getD j' 0).testBit i' = true ∨ ((∀ t, oi'.dst = some t → t ∉ names ops oj') ∧ ∀ t, oj'.dst = some t → t ∉ oi'.looksAt ops) := by
      intro i' j' oi' oj' hlt hoi hoj
      have h1 := List.all_eq_true.1 hP j' (List.mem_range.2 (Array.getElem?_eq_some_iff.1 hoj).1)
      simp only [hoj, List.all_eq_true, List.mem_range] at h1
      have h2 := h1 i' hlt
      simp only [hoi, Bool.or_eq_true, Bool.and_eq_true] at h2
      rcases h2 with h2 | ⟨h2, h3⟩
      · exact .inl h2
      · refine .inr ⟨fun t ht => ?_, fun t ht => ?_⟩
        · simp [ht] at h2; exact h2
        · simp [ht] at h3; exact h3
    -- the writers that are listed of what i looks at are those ahead of it
    have hlook : ∀ t ∈ o.looksAt ops, lastW ops (fun j => listed.getD j false) t = lastW ops (fun j => decide (j < i)) t := by
      intro t ht
      refine lastW_congr fun j oj hoj hd => ?_
      rcases Nat.lt_trichotomy j i with hlt | rfl | hgt
      · have := (pair j i oj o hlt hoj ho).resolve_right (fun h => h.1 t hd (List.mem_append_right _ ht))
        simp [hlt, hanc j this]
      · simp [hun']
      · have := (pair i j o oj hgt ho hoj).resolve_right (fun h => h.2 t hd ht)
        rw [hdesc j oj hoj this]
        symm; simp; omega
    have hD : Deps V a0 a w r := by
      refine deps_of a w r fun ⟨t, j⟩ hx => ?_
      have h1 := hr (t, j) hx
      simp only [beq_iff_eq, List.contains_iff_mem] at h1
      have h2 := hi.tmps t
      rw [hlook t h1.1, h1.2] at h2
      cases j <;> exact h2
    simp only [phaseOk, Bool.and_eq_true, beq_iff_eq, List.all_eq_true, List.mem_range] at hK
    have hki : ks[i]? = some (ks[i]'(by omega)) := List.getElem?_eq_getElem (by omega)
    generalize hkk : ks[i]'(by omega) = kd at hki
    have hgoal := phHold_atQ ops.toList reads ks 0 i o r g kd hops (by simpa using ho) hri hki
    rw [Nat.zero_add] at hgoal
    have big_all : ∀ p, ks[p]? = some .big → ∀ j, j < reads.length → j ≠ p → ks[j]? = some .float ∨ (A.getD p 0).testBit j = true := by
      intro p hp j hj hne
      have hpl : p < reads.length := by
        have := (List.getElem?_eq_some_iff.1 hp).1
        omega
      have := hK.2 p hpl
      rw [hp] at this
      simp only [List.all_eq_true, List.mem_range, Bool.or_eq_true, beq_iff_eq] at this
      rcases this j hj with (h | h) | h
      · exact absurd h hne
      · exact .inl h
      · exact .inr h
    have noBig : kd ≠ .float → ¬ BigIn ks listed := by
      rintro hne ⟨p, hp, hl⟩
      by_cases hip : i = p
      · subst hip; rw [hun'] at hl; cases hl
      · rcases big_all p hp i him hip with h | h
        · rw [hki] at h; exact hne (Option.some.inj h)
        · have hpo : p < ops.size := by
            rcases Nat.lt_or_ge p ops.size with h' | h'
            · exact h'
            · rw [show listed.getD p false = false from by simp [Array.getElem?_eq_none (show listed.size ≤ p by rw [hi.lsize]; exact h')]] at hl; cases hl
          have := closed_anc hA hi.closed p _ (Array.getElem?_eq_getElem hpo) (hi.closed p _ (Array.getElem?_eq_getElem hpo) hl) i h
          rw [this] at hun'; cases hun'
    have bigSet : ∀ {k : Phase}, kd = k → k ≠ .big → (BigIn ks (listed.setIfInBounds i true) ↔ BigIn ks listed) := by
      intro k hk hne
      constructor
      · rintro ⟨p, hp, hl⟩
        by_cases hip : i = p
        · subst hip; rw [hki] at hp; exact absurd (hk.symm.trans (Option.some.inj hp)) hne
        · rw [getD_set_other _ hip] at hl; exact ⟨p, hp, hl⟩
      · rintro ⟨p, hp, hl⟩
        by_cases hip : i = p
        · subst hip; rw [hun'] at hl; cases hl
        · exact ⟨p, hp, by rw [getD_set_other _ hip]; exact hl⟩
    have notBig : ∀ j, listed.getD j false = true → ¬ BigIn ks listed → ks[j]? ≠ some .big := fun j hl hb h => hb ⟨j, h, hl⟩
    -- behind operation i
    have next : ∀ v w', (∀ j, j ≠ i → listed.getD j false = true → ∀ u, V j w u → V j w' u) → (¬ BigIn ks (listed.setIfInBounds i true) → R w0 w') → (BigIn ks (listed.setIfInBounds i true) → ∃ w1, R w0 w1 ∧ Rp (a.put o.dst v) w1 w') → V i w' v → wpAny P .any ops Q fuel (listed.setIfInBounds i true) (a.put o.dst v) w' := by
      intro v w' hww he hl hv
      refine ih _ _ _ (unlisted_set hun fuel hf) ⟨he, hl, ?_, ?_, by simp [hi.lsize], ?_, fun j hj => ?_, ?_⟩
      · cases hd : o.dst <;> simp [Act.put, hi.size]
      · cases hd : o.dst <;> simp [Act.put, hi.defers]
      · intro j oj hoj hl e he hb
        by_cases hji : i = j
        · subst hji
          rw [ho] at hoj
          obtain rfl := Option.some.inj hoj
          by_cases hei : i = e.on
          · rw [← hei]; exact getD_set_self (by rw [hi.lsize]; exact hisz) _
          · rw [getD_set_other _ hei]; exact hdeps e he hb
        · rw [getD_set_other _ hji] at hl
          by_cases hei : i = e.on
          · rw [← hei]; exact getD_set_self (by rw [hi.lsize]; exact hisz) _
          · rw [getD_set_other _ hei]; exact hi.closed j oj hoj hl e he hb
      · rw [getD_set_other _ (by omega)]; exact hi.tail j hj
      · intro t
        by_cases hd : o.dst = some t
        · rw [lastW_set ho hd (p := fun j => (listed.setIfInBounds i true).getD j false) (getD_set_self (by rw [hi.lsize]; exact hisz) _) (fun j oj hoj hdj hlt => by
            have := (pair i j o oj hlt ho hoj).resolve_right (fun h => h.1 t hd (by simp [names, hdj]))
            rw [getD_set_other _ (by omega)]
            exact hdesc j oj hoj this)]
          have htn : t < a.tmps.size := by rw [hi.size]; simpa [hd] using hdst
          simp only [hd, Act.put]
          simpa [htn] using hv
        · rw [lastW_congr (q := fun j => listed.getD j false) (fun j oj hoj hdj => by
            by_cases hji : i = j
            · subst hji; rw [ho] at hoj; obtain rfl := Option.some.inj hoj; exact absurd hdj hd
            · exact getD_set_other _ hji)]
          have h2 := hi.tmps t
          have same : (a.put o.dst v).tmps[t]?.getD undef = a.tmps[t]?.getD undef := by
            cases hdd : o.dst with
            | none => rfl
            | some d =>
              have hne : d ≠ t := fun e => hd (by rw [hdd, e])
              simp [Act.put, Array.getElem?_setIfInBounds_ne hne]
          rw [same]
          revert h2
          cases hlw : lastW ops (fun j => listed.getD j false) t with
          | none => exact id
          | some j =>
            have hlj := lastW_listed hlw
            refine hww j ?_ hlj _
            intro e
            subst e
            rw [hun'] at hlj
            cases hlj
    unfold wpOp
    simp only [ho]
    cases kd with
    | big =>
      obtain ⟨hgn, hgoal⟩ := hgoal
      have hnb := noBig (by simp)
      rw [if_pos (by simp [Region.wanted, hgn])]
      refine .inl (hgoal a w (hi.early hnb) hD _ fun v w' hrp hv => ?_)
      have hbig : BigIn ks (listed.setIfInBounds i true) := ⟨i, hki, getD_set_self (by rw [hi.lsize]; exact hisz) _⟩
      exact next v w' (fun j _ hl u hu => hst j (notBig j hl hnb) w w' u (.inr ⟨_, hrp⟩) hu) (fun h => absurd hbig h) (fun _ => ⟨w, hi.early hnb, hrp⟩) hv
    | plain =>
      have hnb := noBig (by simp)
      have hgoal := hgoal a w (hi.early hnb) hD
      have hs := bigSet rfl (by simp)
      have nx : ∀ v w', R w w' → V i w' v → wpAny P .any ops Q fuel (listed.setIfInBounds i true) (a.put o.dst v) w' := fun v w' hr hv =>
        next v w' (fun j _ hl u hu => hst j (notBig j hl hnb) w w' u (.inl hr) hu) (fun _ => htr _ _ _ (hi.early hnb) hr) (fun h => absurd (hs.1 h) hnb) hv
      cases hgg : o.guard with
      | none =>
        rw [hgg] at hg
        cases g with
        | some _ => simp at hg
        | none =>
          rw [if_pos (by simp [Region.wanted, hgg])]
          exact .inl (hgoal _ nx)
      | some kw =>
        obtain ⟨k, want⟩ := kw
        rw [hgg] at hg
        cases g with
        | none => simp at hg
        | some tw =>
          obtain ⟨t, want'⟩ := tw
          simp only [Bool.and_eq_true, beq_iff_eq] at hg
          obtain ⟨rfl, hk⟩ := hg
          have hw := wanted_iff (a := a) hgg hk
          by_cases hv : a.tmps[t]?.getD undef = .bool want
          · rw [if_pos (hw.2 hv)]
            exact .inl (hgoal.1 hv _ nx)
          · rw [if_neg (fun h => hv (hw.1 h))]
            exact nx undef w (hrf w) (hgoal.2 hv)
    | float =>
      have hgoal := hgoal a w hD
      have hs := bigSet rfl (by simp)
      have nx : ∀ v w', w' = w → V i w' v → wpAny P .any ops Q fuel (listed.setIfInBounds i true) (a.put o.dst v) w' := fun v w' hr hv => by
        subst hr
        exact next v w' (fun j _ _ u hu => hu) (fun h => hi.early (fun hb => h (hs.2 hb))) (fun h => (hi.late (hs.1 h)).imp fun w1 h1 => ⟨h1.1, hfl i o hki ho a w1 _ v h1.2⟩) hv
      cases hgg : o.guard with
      | none =>
        rw [hgg] at hg
        cases g with
        | some _ => simp at hg
        | none =>
          rw [if_pos (by simp [Region.wanted, hgg])]
          exact .inl (hgoal _ nx)
      | some kw =>
        obtain ⟨k, want⟩ := kw
        rw [hgg] at hg
        cases g with
        | none => simp at hg
        | some tw =>
          obtain ⟨t, want'⟩ := tw
          simp only [Bool.and_eq_true, beq_iff_eq] at hg
          obtain ⟨rfl, hk⟩ := hg
          have hw := wanted_iff (a := a) hgg hk
          by_cases hv : a.tmps[t]?.getD undef = .bool want
          · rw [if_pos (hw.2 hv)]
            exact .inl (hgoal.1 hv _ nx)
          · rw [if_neg (fun h => hv (hw.1 h))]
            exact nx undef w rfl (hgoal.2 hv)
end

section
variable {P : Program} {Q : Exit → Act → World → Prop} {V : Nat → World → Value → Prop} {a0 : Act} {w0 : World} {E : Act → World → Prop}
theorem wp_region_bigQ {id : Nat} {n : Nat} (ks : List Phase) (V : Nat → World → Value → Prop) (R : World → World → Prop) (Rp : Act → World → World → Prop) (reads : List (Reads × GuardT)) (fin : List (Tmp × Nat)) {l : List Oper} (tail : List Oper) (hn : a0.tmps.size = n) (hk : regionOk l.toArray reads fin n = true) (hd : l.drop reads.length = tail) (hm : P.follows .mixedOrders = true)
    (hrf : ∀ w, R w w) (htr : ∀ a b c, R a b → R b c → R a c) (hK : phaseOk (mkAnc l) ks reads.length = true) (hb : ks.contains .big = true)
    (hst : ∀ i, ks[i]? ≠ some .big → ∀ w w' v, R w w' ∨ (∃ a, Rp a w w') → V i w v → V i w' v)
    (hfl : ∀ (i : Nat) (o : Oper), ks[i]? = some .float → l[i]? = some o → ∀ a w1 w v, Rp a w1 w → Rp (a.put o.dst v) w1 w)
    (hops : PhHoldQ P Q R Rp V a0 w0.drew 0 l reads ks)
    (hend : EndHold (fun _ _ => True) V w0.drew (fun a w => (∃ w1, R w0.drew w1 ∧ Rp a w1 w) → wpList P l.toArray Q tail a w) (fun _ => True) fin a0) :
    (Code.region id l.toArray true).wp P Q a0 w0 := by
  subst hn
  subst hd
  simp only [regionOk, Bool.and_eq_true] at hk
  obtain ⟨⟨⟨⟨hA, hP⟩, hR⟩, hF⟩, hT⟩ := hk
  refine wp_region_any hm ?_
  refine wpAny_invQ (Rp := Rp) (ks := ks) (w0 := w0.drew) hA hP hR hT hrf htr hK hst (fun i o hk ho => hfl i o hk (by simpa using ho)) hops ?_ _ _ _ _ (Nat.le_trans List.count_le_length (by simp)) ⟨fun _ => hrf _, ?_, rfl, rfl, by simp, ?_, ?_, ?_⟩
  · intro listed a w hl hi
    simp only [finalOk, Bool.and_eq_true, List.all_eq_true, beq_iff_eq] at hF
    have hF2 : ∀ (j : Nat) (o : Oper) (t : Tmp), l.toArray[j]? = some o → j < reads.length → o.dst = some t → t ∈ fin.map (·.1) := by
      intro j o t ho hj hd
      have := hF.2 o (by
        have h1 : (l.take reads.length)[j]? = some o := by rw [List.getElem?_take_of_lt hj]; simpa using ho
        exact List.mem_of_getElem? h1)
      rw [hd] at this
      simpa using this
    have hlast : ∀ t, lastW l.toArray (fun j => listed.getD j false) t = lastW l.toArray (fun j => decide (j < reads.length)) t := fun t =>
      lastW_congr fun j o ho _ => hl j
    have e : fin.foldl (fun a' x => a'.put (some x.1) ((fun t => a.tmps[t]?.getD undef) x.1)) a0 = a := by
      have h := foldl_put (fun t => a.tmps[t]?.getD undef) fin a0
      have hd : (fin.foldl (fun a' x => a'.put (some x.1) ((fun t => a.tmps[t]?.getD undef) x.1)) a0).defers = a.defers := h.2.1.trans hi.defers.symm
      have ht : (fin.foldl (fun a' x => a'.put (some x.1) ((fun t => a.tmps[t]?.getD undef) x.1)) a0).tmps = a.tmps := by
        refine Array.ext_getElem? fun t => ?_
        rcases Nat.lt_or_ge t a0.tmps.size with hlt | hge
        · rw [h.2.2 t hlt]
          have hat : a.tmps[t]? = some (a.tmps[t]?.getD undef) := by
            have : t < a.tmps.size := by rw [hi.size]; exact hlt
            simp [this]
          by_cases hm : t ∈ fin.map (·.1)
          · rw [if_pos hm]; exact hat.symm
          · rw [if_neg hm]
            have h2 := hi.tmps t
            have hnone : lastW l.toArray (fun j => listed.getD j false) t = none := by
              unfold lastW
              rw [List.find?_eq_none]
              intro j _
              cases ho : l.toArray[j]? with
              | none => simp
              | some o =>
                by_cases hdo : o.dst = some t
                · rcases Nat.lt_or_ge j reads.length with hj | hj
                  · exact absurd (hF2 j o t ho hj hdo) hm
                  · simp only [hi.tail j hj]; simp
                · simp [hdo]
            rw [hnone] at h2
            rw [hat, h2]
            simp [hlt]
        · rw [Array.getElem?_eq_none (by rw [h.1]; exact hge), Array.getElem?_eq_none (by rw [hi.size]; exact hge)]
      generalize fin.foldl (fun a' x => a'.put (some x.1) ((fun t => a.tmps[t]?.getD undef) x.1)) a0 = z at hd ht
      cases z; cases a; simp_all
    have hbin : BigIn ks listed := by
      have hmem := List.contains_iff_mem.1 hb
      obtain ⟨p, hp⟩ := List.mem_iff_getElem?.1 hmem
      refine ⟨p, hp, ?_⟩
      rw [hl p]
      have h1 := (List.getElem?_eq_some_iff.1 hp).1
      have h2 := hK
      simp only [phaseOk, Bool.and_eq_true, beq_iff_eq] at h2
      simp; omega
    have := endHold_at (fun t => a.tmps[t]?.getD undef) w trivial fin _ a0 hend trivial (fun x hx => by
      have h1 := hF.1 x hx
      have h2 := hi.tmps x.1
      rw [hlast, h1] at h2
      exact h2)
    rw [e] at this
    exact this (hi.late hbin)
  · rintro ⟨p, _, hp⟩
    exfalso
    rcases Nat.lt_or_ge p l.length with h | h
    · simp [h] at hp
    · simp [h] at hp
  · intro j o ho hl
    exfalso
    have hj : j < l.length := by simpa using (Array.getElem?_eq_some_iff.1 ho).1
    simp [hj] at hl
  · intro j _
    rcases Nat.lt_or_ge j l.length with h | h
    · simp [h]
    · simp [h]
  · intro t
    have : lastW l.toArray (fun j => (Array.replicate l.toArray.size false).getD j false) t = none := by
      unfold lastW
      rw [List.find?_eq_none]
      intro j hj
      have hj : j < l.length := by simpa using hj
      simp [hj]
    rw [this]

end
/-- no floating one writes it -/
def noFloat (t : Tmp) (l : List Oper) (ks : List Phase) : Bool := (List.range l.length).all fun i => match ks[i]?, l[i]? with
  | some .float, some o => o.dst != some t
  | _, _ => true
theorem noFloat_put {t : Tmp} {l : List Oper} {ks : List Phase} (h : noFloat t l ks = true) (S : Value → World → World → Prop) (i : Nat) (o : Oper) (hk : ks[i]? = some .float) (ho : l[i]? = some o) (a : Act) (w1 w : World) (v : Value) (hs : S (a.tmps[t]?.getD undef) w1 w) : S ((a.put o.dst v).tmps[t]?.getD undef) w1 w := by
  have h1 := List.all_eq_true.1 h i (List.mem_range.2 (List.getElem?_eq_some_iff.1 ho).1)
  rw [hk, ho] at h1
  simp only [bne_iff_ne, ne_eq] at h1
  have : (a.put o.dst v).tmps[t]?.getD undef = a.tmps[t]?.getD undef := by
    cases hd : o.dst with
    | none => rfl
    | some d =>
      have hne : d ≠ t := fun e => h1 (by rw [hd, e])
      simp [Act.put, Array.getElem?_setIfInBounds_ne hne]
  rw [this]
  exact hs
theorem region_bigQ {P : Program} {Q : Exit → Act → World → Prop} {a0 : Act} {w0 : World} {id : Nat} {n : Nat} {l : List Oper} (t : Tmp) (S : Value → World → World → Prop) (ks : List Phase) (Vs : List (World → Value → Prop)) (reads : List (Reads × GuardT)) (fin : List (Tmp × Nat))
    (hn : a0.tmps.size = n) (hk : regionOk l.toArray reads fin n = true) (hK : phaseOk (mkAnc l) ks reads.length = true) (hb : ks.contains .big = true) (hm : P.follows .mixedOrders = true) (hnf : noFloat t l ks = true) (hv : ks.length = Vs.length)
    (hst : StableB Grew (fun w w' => ∃ a : Act, S (a.tmps[t]?.getD undef) w w') ks Vs)
    (hops : PhHoldQ P Q Grew (fun a => S (a.tmps[t]?.getD undef)) (at_ Vs) a0 w0.drew 0 l reads ks)
    (hend : EndHold (fun _ _ => True) (at_ Vs) w0.drew (Later (fun a w => (∃ w1, Grew w0.drew w1 ∧ S (a.tmps[t]?.getD undef) w1 w) → wpList P l.toArray Q (dropN reads l) a w)) (fun _ => True) fin a0) :
    (Code.region id l.toArray true).wp P Q a0 w0 :=
  wp_region_bigQ ks (at_ Vs) Grew (fun a => S (a.tmps[t]?.getD undef)) reads fin _ hn hk (dropN_eq reads l) hm Grew.refl (fun _ _ _ => Grew.trans) hK hb (stableB_at ks Vs hv hst) (fun i o hk ho a w1 w v => noFloat_put hnf S i o hk ho a w1 w v) hops (endHold_later _ _ _ hend)
end Go.Proofs.YteaefambkagpbaaR

-- LnkW
namespace Go.Proofs.Yteaefambkagpbaa.F
open Go Go.RowKit Go.Proofs.YteaefambkagpbaaW.PrintWords Go.Proofs.YteaefambkagpbaaW.PrintLast Go.Proofs.YteaefambkagpbaaW.PrintMore Go.Proofs.YteaefambkagpbaaM Go.Proofs.YteaefambkagpbaaR
attribute [local go_sem] max2_int min2_int max_two min_two
set_option linter.unusedSimpArgs false
set_option linter.unusedVariables false
set_option maxRecDepth 100000
/-- the bits of what came behind a gap -/
def bitsF (F : MpF) (gap : Int) : Nat → Int
  | 0 => 0
  | i + 1 => bitsF F gap i + (if (F (gap + i)).isSome = true then 2 ^ i else 0)
theorem bitsF_range (F : MpF) (gap : Int) : ∀ i, 0 ≤ bitsF F gap i ∧ bitsF F gap i < 2 ^ i
  | 0 => by simp [bitsF]
  | i + 1 => by
    have h := bitsF_range F gap i
    simp only [bitsF]
    rw [Int.pow_succ]
    split <;> omega
theorem or_bit (x : Int) (i : Nat) (hi : i < 16) (h0 : 0 ≤ x) (h1 : x < 2 ^ i) : Go.bits .or .i64 x (2 ^ i) = x + 2 ^ i := by
  have hp : (2 : Int) ^ i < 2 ^ 16 := Int.pow_lt_pow_of_lt (by decide) hi
  exact bits_join_low .i64 16 (by decide) (fun n h2 h3 => IntWalk.i64_in _ (by have : (2 : Int) ^ 16 = 65536 := by decide
                                                                               omega)) i x (2 ^ i) h0 h1 (by omega) (by omega) (by simp) hp
/-- a new block for a packet -/
def NewQ (N : Nat) : World → Value → Prop := fun w v => ∃ g cs, v = .pointer (some ⟨g, 0, none⟩) ∧ N ≤ g ∧ cs.length = 5 ∧ Blk w g 30 cs
/-- into it a packet is put -/
def PutQ (N : Nat) (c : List Value) : Value → World → World → Prop := fun v w w' => ∃ g cs, v = .pointer (some ⟨g, 0, none⟩) ∧ N ≤ g ∧ cs.length = 5 ∧ Blk w g 30 cs ∧ w' = w.setRow g c.toArray
theorem NewQ.stable {N : Nat} {c : List Value} {q : Tmp} (hc : c.length = 5) : ∀ w w' v, Grew w w' ∨ (∃ a : Act, PutQ N c (a.tmps[q]?.getD undef) w w') → NewQ N w v → NewQ N w' v := fun w w' _ h ⟨g, cs, h1, h2, h3, h4⟩ => by
  rcases h with hg | ⟨a, g', cs', -, -, h5, h6, rfl⟩
  · exact ⟨g, cs, h1, h2, h3, h4.grew hg⟩
  · by_cases he : g = g'
    · subst he
      exact ⟨g, c, h1, h2, hc, h4.setRow _⟩
    · exact ⟨g, cs, h1, h2, h3, h4.farRow he _⟩
/-- a receipt -/
def recV (gap bits : Int) : Value := .agg #[.bool true, .int .i64 gap, .bool false, .string ⟨#[]⟩, .int .i64 bits]
set_option maxHeartbeats 4000000 in
theorem rreceipt_c (w : World) (B g m : Nat) (vw bp vb : Value) (gap : Int) (F : MpF) (whole : List ByteArray) (buf : ByteArray) (n : Int) (h : RcvM B g m vw bp vb gap F whole buf n w) (hg0 : 0 ≤ gap) (hg1 : gap ≤ 1000000) :
    Calls Try.prog 27 #[.pointer (some ⟨g, 0, none⟩)] w (Tells w (Is (recV gap (bitsF F gap 16)))) := by
  have HM := Lib.hid (fun wx (hG : Grew w wx) => (h.grew hG).map)
  have HC0 := Lib.hid (fun wx (hG : Grew w wx) => show wx.cell? ⟨g, 0, none⟩ = some (.int .i64 gap) from by rw [((h.grew hG).cells).at_]; rfl)
  have HC1 := Lib.hid (fun wx (hG : Grew w wx) => show wx.cell? ⟨g, 1, none⟩ = some (.map (some m)) from by rw [((h.grew hG).cells).at_]; rfl)
  obtain ⟨p2, hp2⟩ : ∃ p2, p2 = w.heap.size := ⟨_, rfl⟩
  obtain ⟨p3, hp3⟩ : ∃ p3, p3 = w.heap.size + 1 := ⟨_, rfl⟩
  obtain ⟨W2, hW2⟩ : ∃ W2, W2 = (w.alloc (.cells #[.bool false, .int .i64 0, .bool false, .string ⟨#[]⟩, .int .i64 0] 30)).alloc (.cells #[.bool true, .int .i64 0, .bool false, .string ⟨#[]⟩, .int .i64 0] 30) := ⟨_, rfl⟩
  have hg2 : Grew w W2 := by rw [hW2]; exact Grew.trans (Grew.alloc _ _) (Grew.alloc _ _)
  have hb2 : Blk W2 p2 30 zcells := by
    rw [hW2, hp2]; exact (Blk.new w 30 zcells).grew (Grew.alloc _ _)
  have hb3 : Blk W2 p3 30 [.bool true, .int .i64 0, .bool false, .string ⟨#[]⟩, .int .i64 0] := by
    have e : (w.alloc (.cells zcells.toArray 30)).heap.size = w.heap.size + 1 := by simp
    have h9 := Blk.new (w.alloc (.cells zcells.toArray 30)) 30 [.bool true, .int .i64 0, .bool false, .string ⟨#[]⟩, .int .i64 0]
    rw [e] at h9
    rw [hW2, hp3]; exact h9
  have q0 := HC0.out W2 hg2
  have k1 := hb3.at_ 1
  have f1 := hb3.fz 1
  simp only [List.getElem?_cons_zero, List.getElem?_cons_succ] at k1
  have hb3' := hb3.set 1 (.int .i64 gap)
  simp only [List.set_cons_zero, List.set_cons_succ] at hb3'
  obtain ⟨W4, hW4⟩ : ∃ W4, W4 = W2.setCell ⟨p3, 1, none⟩ (.int .i64 gap) := ⟨_, rfl⟩
  have hu4 : Upd (fun j => j = p3) W2 W4 := by rw [hW4]; exact Upd.set (S := fun j => j = p3) (p := ⟨p3, 1, none⟩) (Upd.refl _ _) (.inl rfl) _
  have hg4 : Grew w W4 := ((Upd.of_grew (S := fun j => j = p3) hg2).trans hu4).grew (fun j hj e => by omega)
  rw [← hW4] at hb3'
  have HB3 := Lib.hid hb3'
  have HB2 := Lib.hid (hb2.upd hu4 (fun e => by omega))
  have HG4 := Lib.hid hg4
  have HW2 := Lib.hid hW2
  have HW4 := Lib.hid hW4
  have HP2 := Lib.hid hp2
  have HP3 := Lib.hid hp3
  clear h hg2 hb2 hb3 hb3' hu4 hg4 hW2 hW4 hp2 hp3
  go_enter Try.func27, Try.ntmps27
  go_upto_region 4 with fail
  rw [← HW2.out, ← HP3.out, ← HP2.out]
  go_upto_region 5 with fail
  rw [← HW4.out]
  clear q0 k1 f1
  go_wp2_with fail
  go_loopw [16] (fun iv wr => ∃ i : Nat, iv = .int .i64 (i : Int) ∧ i ≤ 16 ∧ Blk wr p3 30 [.bool true, .int .i64 gap, .bool false, .string ⟨#[]⟩, .int .i64 (bitsF F gap i)] ∧ Blk wr p2 30 zcells ∧ Grew w wr) (fun iv _ => 16 - (intOf iv).toNat)
  case atStart => exact ⟨0, rfl, by omega, HB3.out, HB2.out, HG4.out⟩
  case round =>
    obtain ⟨i, rfl, hi, hb3, hb2, hgr⟩ := hrel
    have HB3 := Lib.hid hb3
    have HB2 := Lib.hid hb2
    have HGR := Lib.hid hgr
    clear hb3 hb2 hgr
    by_cases hlt : i < 16
    · have d1 : decide ((i : Int) < 16) = true := decide_eq_true (by omega)
      have d2 : decide (i < 16) = true := decide_eq_true hlt
      have wgi : IntKind.i64.wrap (gap + (i : Int)) = gap + (i : Int) := IntWalk.i64_in _ (by omega)
      have wi : IntKind.i64.wrap ((i : Int) + 1) = (i : Int) + 1 := IntWalk.i64_in _ (by omega)
      have HWI := Lib.hid wi
      have hlk := fun wx (hG : Grew w wx) => (HM.out wx hG).look (gap + (i : Int)) (by simp [Lit.wf, IntKind.min, IntKind.max, IntKind.bits, IntKind.signed]; omega)
      have hnx : bitsF F gap (i + 1) = bitsF F gap i + (if (F (gap + (i : Int))).isSome = true then 2 ^ i else 0) := rfl
      obtain ⟨q, hq⟩ : ∃ q, q = (F (gap + (i : Int))).getD zPk := ⟨_, rfl⟩
      obtain ⟨bb, hbb⟩ : ∃ bb, bb = (F (gap + (i : Int))).isSome := ⟨_, rfl⟩
      rw [← hq, ← hbb] at hlk
      rw [← hbb] at hnx
      have HNX := Lib.hid hnx
      obtain ⟨q0, q1, q2, q3, q4⟩ := q
      simp only [pkV] at hlk
      have HLK := Lib.hid hlk
      clear hq hbb hlk hnx wi
      go_wp2_with fail
      apply region_bigQ 5 (PutQ wr.heap.size [.bool q0, .int .i64 q1, .bool q2, .string q3, .int .i64 q4]) [.plain, .plain, .plain, .plain, .plain, .plain, .plain, .plain, .plain, .plain, .plain, .plain, .plain, .float, .plain, .big] [Is _, Is _, Is _, Is _, Is _, Is _, Is _, Is _, Is _, Is _, Is _, Is _, Is _, Is _, NewQ wr.heap.size, Is undef] [([(0, none)], none), ([(20, some 0)], none), ([(21, some 1)], none), ([(22, some 2)], none), ([(0, none)], none), ([(24, some 4)], none), ([(25, some 5)], none), ([(26, some 6)], none), ([(4, none)], none), ([(27, some 7), (28, some 8)], none), ([(23, some 3), (29, some 9)], none), ([(30, some 10)], none), ([(19, some 11)], none), ([(19, some 11)], none), ([], none), ([(5, some 14), (31, some 12)], none)] [(5, 14), (19, 11), (20, 0), (21, 1), (22, 2), (23, 3), (24, 4), (25, 5), (26, 6), (27, 7), (28, 8), (29, 9), (30, 10), (31, 12), (32, 13)] rfl (by kernel_rfl) (by kernel_rfl) (by kernel_rfl) (by kernel_rfl) (by kernel_rfl) rfl (show StableB Grew _ _ _ from ⟨(fun _ => Is.stableB _), (fun _ => Is.stableB _), (fun _ => Is.stableB _), (fun _ => Is.stableB _), (fun _ => Is.stableB _), (fun _ => Is.stableB _), (fun _ => Is.stableB _), (fun _ => Is.stableB _), (fun _ => Is.stableB _), (fun _ => Is.stableB _), (fun _ => Is.stableB _), (fun _ => Is.stableB _), (fun _ => Is.stableB _), (fun _ => Is.stableB _), (fun _ => NewQ.stable rfl), (fun h_ => absurd rfl h_), trivial⟩)
      · show PhHoldQ _ _ _ _ _ _ _ _ _ _ _
        refine ⟨fun a_ wx hR hD K hK => ?_, ?_⟩
        · have hG : Grew wr wx := (Grew.drew _).trans hR
          simp [Deps, Dep, at_, Is] at hD
          go_simp
          exact hK _ _ (Grew.refl _) rfl
        refine ⟨fun a_ wx hR hD K hK => ?_, ?_⟩
        · have hG : Grew wr wx := (Grew.drew _).trans hR
          simp [Deps, Dep, at_, Is] at hD
          go_simp
          exact hK _ _ (Grew.refl _) rfl
        refine ⟨fun a_ wx hR hD K hK => ?_, ?_⟩
        · have hG : Grew wr wx := (Grew.drew _).trans hR
          simp [Deps, Dep, at_, Is] at hD
          go_simp
          exact hK _ _ (Grew.refl _) rfl
        refine ⟨fun a_ wx hR hD K hK => ?_, ?_⟩
        · have hG : Grew wr wx := (Grew.drew _).trans hR
          simp [Deps, Dep, at_, Is] at hD
          have e_ := HC1.out wx (Grew.trans HGR.out hG)
          go_simp
          exact hK _ _ (Grew.refl _) rfl
        refine ⟨fun a_ wx hR hD K hK => ?_, ?_⟩
        · have hG : Grew wr wx := (Grew.drew _).trans hR
          simp [Deps, Dep, at_, Is] at hD
          go_simp
          exact hK _ _ (Grew.refl _) rfl
        refine ⟨fun a_ wx hR hD K hK => ?_, ?_⟩
        · have hG : Grew wr wx := (Grew.drew _).trans hR
          simp [Deps, Dep, at_, Is] at hD
          go_simp
          exact hK _ _ (Grew.refl _) rfl
        refine ⟨fun a_ wx hR hD K hK => ?_, ?_⟩
        · have hG : Grew wr wx := (Grew.drew _).trans hR
          simp [Deps, Dep, at_, Is] at hD
          go_simp
          exact hK _ _ (Grew.refl _) rfl
        refine ⟨fun a_ wx hR hD K hK => ?_, ?_⟩
        · have hG : Grew wr wx := (Grew.drew _).trans hR
          simp [Deps, Dep, at_, Is] at hD
          have e_ := HC0.out wx (Grew.trans HGR.out hG)
          go_simp
          exact hK _ _ (Grew.refl _) rfl
        refine ⟨fun a_ wx hR hD K hK => ?_, ?_⟩
        · have hG : Grew wr wx := (Grew.drew _).trans hR
          simp [Deps, Dep, at_, Is] at hD
          go_simp
          exact hK _ _ (Grew.refl _) rfl
        refine ⟨fun a_ wx hR hD K hK => ?_, ?_⟩
        · have hG : Grew wr wx := (Grew.drew _).trans hR
          simp [Deps, Dep, at_, Is] at hD
          obtain ⟨hd0, hd1⟩ := hD
          go_simp
          exact hK _ _ (Grew.refl _) rfl
        refine ⟨fun a_ wx hR hD K hK => ?_, ?_⟩
        · have hG : Grew wr wx := (Grew.drew _).trans hR
          simp [Deps, Dep, at_, Is] at hD
          obtain ⟨hd0, hd1⟩ := hD
          have e_ := HLK.out wx (Grew.trans HGR.out hG)
          go_simp
          exact hK _ _ (Grew.refl _) rfl
        refine ⟨fun a_ wx hR hD K hK => ?_, ?_⟩
        · have hG : Grew wr wx := (Grew.drew _).trans hR
          simp [Deps, Dep, at_, Is] at hD
          go_simp
          exact hK _ _ (Grew.refl _) rfl
        refine ⟨fun a_ wx hR hD K hK => ?_, ?_⟩
        · have hG : Grew wr wx := (Grew.drew _).trans hR
          simp [Deps, Dep, at_, Is] at hD
          go_simp
          exact hK _ _ (Grew.refl _) rfl
        refine ⟨fun a_ wx hD K hK => ?_, ?_⟩
        · have hF_ := True.intro
          simp [Deps, Dep, at_, Is] at hD
          go_simp
          exact hK _ _ rfl rfl
        refine ⟨fun a_ wx hR hD K hK => ?_, ?_⟩
        · have hG : Grew wr wx := (Grew.drew _).trans hR
          go_simp
          exact hK _ _ (Grew.alloc _ _) ⟨_, _, rfl, hG.size, rfl, Blk.new _ _ [.bool false, .int .i64 0, .bool false, .string ⟨#[]⟩, .int .i64 0]⟩
        refine ⟨⟨rfl, fun a_ wx hR hD K hK => ?_⟩, ?_⟩
        · have hG : Grew wr wx := (Grew.drew _).trans hR
          simp [Deps, Dep, at_, Is] at hD
          obtain ⟨hd0, hd1⟩ := hD
          obtain ⟨g1, cs, h1, h2, h3, h4⟩ := hd0
          exact wp_store_row 30 (.tmp 5) (.tmp 31) rfl g1 #[.bool q0, .int .i64 q1, .bool q2, .string q3, .int .i64 q4] (eval_tmp h1) (eval_tmp hd1) 30 cs.toArray h4 (by kernel_rfl) (by simpa using h3) (by simp [Value.oneCell']) (hK _ _ ⟨g1, cs, h1, h2, h3, h4, rfl⟩ rfl)
        trivial
      · show EndHold _ _ _ _ _ _ _
        intro v5
        refine end_all (xs := [_, _, _, _, _, _, _, _, _, _, _, _, _, _]) ⟨rfl, rfl, rfl, rfl, rfl, rfl, rfl, rfl, rfl, rfl, rfl, rfl, rfl, rfl, trivial⟩ ?_
        rintro w5 hR1 ⟨-, hN14⟩
        refine ⟨?_⟩
        rintro ⟨wm_w5, hRm, hP_w5⟩
        have hG_w5 : Grew wr wm_w5 := (Grew.drew _).trans hRm
        clear hRm
        simp only [Act.put, List.setIfInBounds_toArray, List.set_cons_succ, List.set_cons_zero, dropN, putEach]
        obtain ⟨g7, cs7, hv7, hN7, h37, hbl7, rfl⟩ := hP_w5
        simp only [Act.put, List.setIfInBounds_toArray, List.set_cons_succ, List.set_cons_zero, putEach, List.getElem?_toArray, List.getElem?_cons_succ, List.getElem?_cons_zero, Option.getD_some] at hv7
        have hv7' : v5 = .pointer (some ⟨g7, 0, none⟩) := hv7
        clear hv7 hN14
        subst hv7'
        have hg5 := Grew.setRow hG_w5 hN7 [Value.bool q0, .int .i64 q1, .bool q2, .string q3, .int .i64 q4].toArray
        obtain ⟨W5, hW5⟩ : ∃ W5, W5 = wm_w5.setRow g7 [Value.bool q0, .int .i64 q1, .bool q2, .string q3, .int .i64 q4].toArray := ⟨_, rfl⟩
        rw [← hW5] at hg5 ⊢
        have HG5 := Lib.hid hg5
        clear hW5 hg5 hbl7 hN7 h37 hG_w5
        cases bb with
        | false =>
          have HN0 := Lib.hid (show bitsF F gap (i + 1) = bitsF F gap i from by rw [HNX.out]; simp)
          have wi := HWI.out
          go_wp2_with fail
          go_roundw
          case rel => exact ⟨i + 1, by go_num, by omega, by rw [HN0.out]; exact HB3.out.grew HG5.out, HB2.out.grew HG5.out, Grew.trans HGR.out HG5.out⟩
          case measure => have wi := HWI.out; simp [intOf, wi]; omega
        | true =>
          have HN1 := Lib.hid (show bitsF F gap (i + 1) = bitsF F gap i + 2 ^ i from by rw [HNX.out]; simp)
          have hor := or_bit (bitsF F gap i) i hlt (bitsF_range F gap i).1 (bitsF_range F gap i).2
          obtain ⟨bi, hbi⟩ : ∃ bi, bi = bitsF F gap i := ⟨_, rfl⟩
          rw [← hbi] at hor HN1 HB3
          have hw2 : IntKind.i64.wrap ((2 : Int) ^ i) = 2 ^ i := by
            have h1 : (2 : Int) ^ i < 2 ^ 16 := Int.pow_lt_pow_of_lt (by decide) hlt
            have h2 : (0 : Int) < 2 ^ i := Int.pow_pos (by decide)
            exact IntWalk.i64_in _ (by have h3 : (2 : Int) ^ 16 = 65536 := by decide
                                       omega)
          have hb5 := HB3.out.grew HG5.out
          have k4 := hb5.at_ 4
          have f4 := hb5.fz 4
          simp only [List.getElem?_cons_zero, List.getElem?_cons_succ] at k4
          have HB35 := Lib.hid hb5
          have HL4 := Lib.hid (fun wx (hG : Grew W5 wx) => show wx.cell? ⟨p3, 4, none⟩ = some (.int .i64 bi) from by rw [(hb5.grew hG).at_]; rfl)
          clear hb5 hbi k4 f4
          go_wp2_with fail
          apply region_grew [Is _, Is _, Is _, Is _] [([(3, none)], none), ([(34, some 0)], none), ([(4, none)], none), ([(36, some 2)], none)] [(34, 0), (35, 1), (36, 2), (37, 3)] rfl (by kernel_rfl) (by kernel_rfl) (show Stable Grew _ from ⟨Is.stable _, Is.stable _, Is.stable _, Is.stable _, trivial⟩)
          · show OpsHold _ _ _ _ _ _ _ _ _
            refine ⟨fun a_ wx hR hD K hK => ?_, ?_⟩
            · have hG : Grew W5 wx := (Grew.drew _).trans hR
              simp [Deps, Dep, at_, Is] at hD
              go_simp
              exact hK _ _ (Grew.refl _) rfl
            refine ⟨fun a_ wx hR hD K hK => ?_, ?_⟩
            · have hG : Grew W5 wx := (Grew.drew _).trans hR
              simp [Deps, Dep, at_, Is] at hD
              have e_ := HL4.out wx hG
              go_simp
              exact hK _ _ (Grew.refl _) rfl
            refine ⟨fun a_ wx hR hD K hK => ?_, ?_⟩
            · have hG : Grew W5 wx := (Grew.drew _).trans hR
              simp [Deps, Dep, at_, Is] at hD
              go_simp
              exact hK _ _ (Grew.refl _) rfl
            refine ⟨fun a_ wx hR hD K hK => ?_, ?_⟩
            · have hG : Grew W5 wx := (Grew.drew _).trans hR
              simp [Deps, Dep, at_, Is] at hD
              go_simp
              exact hK _ _ (Grew.refl _) rfl
            trivial
          · show EndHold _ _ _ _ _ _ _
            refine end_all (xs := [_, _, _, _]) ⟨rfl, rfl, rfl, rfl, trivial⟩ ?_
            rintro w6 hR1 -
            refine ⟨?_⟩
            have hG_w6 : Grew W5 w6 := (Grew.drew _).trans hR1
            clear hR1
            simp only [Act.put, List.setIfInBounds_toArray, List.set_cons_succ, List.set_cons_zero, dropN, putEach]
            have hb6 := HB35.out.grew hG_w6
            have k4 := hb6.at_ 4
            have f4 := hb6.fz 4
            simp only [List.getElem?_cons_zero, List.getElem?_cons_succ] at k4
            have hb7 := hb6.set 4 (.int .i64 (bi + 2 ^ i))
            simp only [List.set_cons_zero, List.set_cons_succ] at hb7
            obtain ⟨W7, hW7⟩ : ∃ W7, W7 = w6.setCell ⟨p3, 4, none⟩ (.int .i64 (bi + 2 ^ i)) := ⟨_, rfl⟩
            have hu7 : Upd (fun j => j = p3) w6 W7 := by rw [hW7]; exact Upd.set (S := fun j => j = p3) (p := ⟨p3, 4, none⟩) (Upd.refl _ _) (.inl rfl) _
            rw [← hW7] at hb7
            have HB7 := Lib.hid hb7
            have HG6 := Lib.hid (Grew.trans HG5.out hG_w6)
            have HB27 := Lib.hid ((HB2.out.grew HG6.out).upd hu7 (fun e => by have := HP2.out; have := HP3.out; omega))
            have HG7 := Lib.hid (((Upd.of_grew (S := fun j => j = p3) (Grew.trans HGR.out HG6.out)).trans hu7).grew (fun j hj e => by have := HP3.out; omega))
            have HW7 := Lib.hid hW7
            clear hb6 hb7 hu7 hW7 hG_w6
            go_wp2_with fail
            rw [← HW7.out]
            have wi := HWI.out
            clear k4 f4
            go_roundw
            case rel => exact ⟨i + 1, by go_num, by omega, by rw [HN1.out]; exact HB7.out, HB27.out, HG7.out⟩
            case measure => have wi := HWI.out; simp [intOf, wi]; omega
    · obtain rfl : i = 16 := by omega
      obtain ⟨bi, hbi⟩ : ∃ bi, bi = bitsF F gap 16 := ⟨_, rfl⟩
      rw [← hbi] at HB3 ⊢
      have hb3 := HB3.out
      have e0 := hb3.at_ 0
      have e1 := hb3.at_ 1
      have e2 := hb3.at_ 2
      have e3 := hb3.at_ 3
      have e4 := hb3.at_ 4
      simp only [List.getElem?_cons_zero, List.getElem?_cons_succ] at e0 e1 e2 e3 e4
      have HGF := Lib.hid (show Grew w (wr.setRow p2 [Value.bool true, .int .i64 gap, .bool false, .string ⟨#[]⟩, .int .i64 bi].toArray) from Grew.setRow HGR.out (by have := HP2.out; omega) _)
      have HBI := Lib.hid hbi
      clear hb3 hbi
      go_wp2_with (refine wpList_store_blk HB2.out rfl 30 (.tmp 2) (.tmp 41) rfl (c := [.bool true, .int .i64 gap, .bool false, .string ⟨#[]⟩, .int .i64 bi]) (by rfl) (by rfl) (by kernel_rfl) rfl (by simp [Value.oneCell']) ?_)
      refine bodyPost_ret (results_blk rfl _ (HB2.out.setRow [.bool true, .int .i64 gap, .bool false, .string ⟨#[]⟩, .int .i64 bi]) _ (by rfl) Try.underlying30 (by rfl) (by kernel_rfl)) rfl ?_
      exact ⟨_, rfl, by rw [← HBI.out]; rfl, HGF.out⟩
end Go.Proofs.Yteaefambkagpbaa.F

-- LnkX
namespace Go.Proofs.Yteaefambkagpbaa.F
open Go Go.RowKit Go.Proofs.YteaefambkagpbaaW.PrintWords Go.Proofs.YteaefambkagpbaaW.PrintLast Go.Proofs.YteaefambkagpbaaW.PrintMore Go.Proofs.YteaefambkagpbaaM Go.Proofs.YteaefambkagpbaaR
set_option linter.unusedSimpArgs false
set_option linter.unusedVariables false
set_option maxRecDepth 100000
abbrev Pkt := S30
structure RSt where
  gap : Int
  F : MpF
  whole : List ByteArray
  buf : ByteArray
  n : Int
/-- the part at the gap is taken over -/
def stepR (s : RSt) (x : Pkt) : RSt :=
  if x.f2 = true ∨ s.n + 1 = 21 then ⟨s.gap + 1, delF s.F s.gap, s.whole ++ [s.buf ++ x.f3], ⟨#[]⟩, 0⟩
  else ⟨s.gap + 1, delF s.F s.gap, s.whole, s.buf ++ x.f3, s.n + 1⟩
def drainR : Nat → RSt → RSt
  | 0, s => s
  | k + 1, s => match s.F s.gap with
    | none => s
    | some x => drainR k (stepR s x)
def takeR (s : RSt) (p : Pkt) : RSt :=
  if p.f1 < s.gap ∨ (s.F p.f1).isSome = true then s else drainR 17 ⟨s.gap, putF s.F p.f1 p, s.whole, s.buf, s.n⟩
/-- what the walk asks of a receiver: keys lie below K -/
structure OkR (K : Int) (s : RSt) : Prop where
  g0 : 0 ≤ s.gap
  g1 : s.gap ≤ 1000000
  k1 : K ≤ 1000100
  n0 : 0 ≤ s.n
  n1 : s.n ≤ 20
  buf : (s.buf.size : Int) ≤ 200 * s.n
  whole : (s.whole.length : Int) ≤ s.gap
  keys : ∀ k x, s.F k = some x → s.gap ≤ k ∧ k < K
  small : ∀ k x, s.F k = some x → x.f3.size ≤ 200
theorem OkR.step {K : Int} {s : RSt} (h : OkR K s) {x : Pkt} (hx : s.F s.gap = some x) (hK : K ≤ 1000000) : OkR K (stepR s x) := by
  have hk := h.keys _ _ hx
  have hs := h.small _ _ hx
  have hn1 := h.n1
  have hb := h.buf
  have hw := h.whole
  have hkeys : ∀ k y, delF s.F s.gap k = some y → s.gap + 1 ≤ k ∧ k < K := by
    intro k y hy
    by_cases e : k = s.gap
    · rw [e, delF_at] at hy; cases hy
    · rw [delF_ne _ e] at hy
      have := h.keys _ _ hy
      omega
  have hsmall : ∀ k y, delF s.F s.gap k = some y → y.f3.size ≤ 200 := by
    intro k y hy
    by_cases e : k = s.gap
    · rw [e, delF_at] at hy; cases hy
    · rw [delF_ne _ e] at hy
      exact h.small _ _ hy
  have hg0 := h.g0
  have hn0 := h.n0
  unfold stepR
  split
  · exact ⟨by simp only; omega, by simp only; omega, h.k1, by simp, by simp, by simp [ByteArray.size], by simp only [List.length_append, List.length_singleton]; omega, hkeys, hsmall⟩
  · rename_i hc
    exact ⟨by simp only; omega, by simp only; omega, h.k1, by simp only; omega, by simp only; omega, by simp only [ByteArray.size_append]; omega, by simp only; omega, hkeys, hsmall⟩
theorem drainR_stop {s : RSt} (h : s.F s.gap = none) : ∀ k, drainR k s = s
  | 0 => rfl
  | k + 1 => by simp only [drainR, h]
theorem drainR_go {s : RSt} {x : Pkt} (h : s.F s.gap = some x) (k : Nat) : drainR (k + 1) s = drainR k (stepR s x) := by simp only [drainR, h]
end Go.Proofs.Yteaefambkagpbaa.F
