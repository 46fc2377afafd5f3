/- Texts of this seat laid together: LnkP, LnkQ, LnkL. -/
import Derived.Test.YteaefambkagpbaaSB

-- LnkP
namespace Go.Proofs.Yteaefambkagpbaa.F
open Go Go.RowKit Go.Proofs.YteaefambkagpbaaW.PrintWords Go.Proofs.YteaefambkagpbaaW.PrintLast Go.Proofs.YteaefambkagpbaaW.PrintMore Go.Proofs.YteaefambkagpbaaM Go.Proofs.YteaefambkagpbaaR
attribute [local go_sem] max2_int min2_int max_two min_two
set_option linter.unusedSimpArgs false
set_option linter.unusedVariables false
set_option maxRecDepth 100000
/-- parts, numbered from n on, not sent yet -/
def fresh (n : Int) : List S30 → List S86
  | [] => []
  | p :: c => ⟨⟨p.f0, n, p.f2, p.f3, p.f4⟩, false, 0, false⟩ :: fresh (n + 1) c
theorem fresh_len (n : Int) (c : List S30) : (fresh n c).length = c.length := by
  induction c generalizing n with
  | nil => rfl
  | cons p c ih => simp [fresh, ih]
theorem fresh_snoc (n : Int) (c : List S30) (p : S30) : fresh n (c ++ [p]) = fresh n c ++ [⟨⟨p.f0, n + c.length, p.f2, p.f3, p.f4⟩, false, 0, false⟩] := by
  induction c generalizing n with
  | nil => simp [fresh]
  | cons q c ih => simp only [List.cons_append, fresh, ih, List.length_cons]; rw [show n + ((c.length + 1 : Nat) : Int) = n + 1 + (c.length : Int) from by omega]
/-- what Put does: its answer, and the sender's object behind it -/
def PutD (B g : Nat) (v : Value) (l : List S86) (f n : Int) (r : Int) (l' : List S86) (w : World) (e : Ending) (w' : World) : Prop :=
  ∃ v', e = .returned (.int .i64 r) ∧ SndM B g v' l' f n w' ∧ Upd (sndS g v) w w' ∧ (v'.ownBlock = v.ownBlock ∨ ∃ k, v'.ownBlock = some k ∧ w.heap.size ≤ k)
theorem put_nil_c (w : World) (m : ByteArray) : Calls Try.prog 22 #[.pointer none, .string m] w (Tells w (Is (.int .i64 1))) := by
  go_enter Try.func22, Try.ntmps22
  go_wp2_with fail
  go_ret
  exact ⟨_, rfl, rfl, Grew.refl w⟩
theorem put_long_c (w : World) (g : Nat) (m : ByteArray) (h : 4096 < m.size) : Calls Try.prog 22 #[.pointer (some ⟨g, 0, none⟩), .string m] w (Tells w (Is (.int .i64 2))) := by
  have d1 : decide (4096 < (m.size : Int)) = true := decide_eq_true (by omega)
  have d2 : decide (4096 < m.size) = true := decide_eq_true (by omega)
  go_enter Try.func22, Try.ntmps22
  go_wp2_with fail
  go_ret
  exact ⟨_, rfl, rfl, Grew.refl w⟩
set_option maxHeartbeats 4000000 in
theorem put_full_c (w : World) (B g : Nat) (v : Value) (l : List S86) (f n : Int) (hS : SndM B g v l f n w) (m : ByteArray) (h : m.size ≤ 4096) (hl : l.length ≤ 100000) (hfull : 64 < l.length + (cutP m).length) (hcl : (cutP m).length ≤ 100000) :
    Calls Try.prog 22 #[.pointer (some ⟨g, 0, none⟩), .string m] w (Tells w (Is (.int .i64 5))) := by
  have H1 := Lib.hid (cut_c m (by omega) w)
  obtain ⟨A, cc, rfl, hc⟩ := hS.row.slice
  have HC := Lib.hid (fun wx (hG : Grew w wx) => (show wx.cell? ⟨g, 0, none⟩ = some (.slice A l.length cc) from by rw [(hS.cells.grew hG).at_]; rfl))
  obtain ⟨k, hk⟩ : ∃ k, k = l.length := ⟨_, rfl⟩
  obtain ⟨q, hq⟩ : ∃ q, q = (cutP m).length := ⟨_, rfl⟩
  rw [← hk] at HC hc hl hfull
  rw [← hq] at H1 hfull hcl
  obtain ⟨ms, hms⟩ : ∃ ms, m.size = ms := ⟨_, rfl⟩
  have d1 : decide (4096 < (ms : Int)) = false := decide_eq_false (by omega)
  have d2 : decide (4096 < ms) = false := decide_eq_false (by omega)
  have d3 : decide (64 < (k : Int) + (q : Int)) = true := decide_eq_true (by omega)
  have hw : IntKind.i64.wrap ((k : Int) + (q : Int)) = (k : Int) + (q : Int) := IntWalk.i64_in _ (by omega)
  clear hS hk hq h hfull
  go_enter Try.func22, Try.ntmps22
  go_wp2_with fail
  refine H1.out.mono ?_
  rintro e w1 ⟨_, rfl, ⟨A5, c5, rfl, hc5, hC5⟩, hg1⟩
  clear hC5
  go_wp2_with fail
  apply region_grew [Is _, Is _, Is _, Is _, Is _, Is _, Is _, Is _, Is _, Is _, Is undef, Is undef, Is undef, Is undef, Is undef, Is undef, Is undef, Is undef, Is undef, Is undef, Is undef, Is undef] [([(0, none)], none), ([(15, some 0)], none), ([(16, some 1)], none), ([(17, some 2)], none), ([(18, some 3)], none), ([(5, none)], none), ([(20, some 5)], none), ([(19, some 4), (21, some 6)], none), ([(22, some 7)], none), ([(23, some 8)], none), ([(0, none), (24, some 9)], some (24, false)), ([(25, some 10), (24, some 9)], some (24, false)), ([(26, some 11), (24, some 9)], some (24, false)), ([(27, some 12), (24, some 9)], some (24, false)), ([(0, none), (24, some 9)], some (24, false)), ([(29, some 14), (24, some 9)], some (24, false)), ([(30, some 15), (24, some 9)], some (24, false)), ([(31, some 16), (24, some 9)], some (24, false)), ([(32, some 17), (24, some 9)], some (24, false)), ([(28, some 13), (33, some 18), (24, some 9)], some (24, false)), ([(5, none), (24, some 9)], some (24, false)), ([(35, some 20), (24, some 9)], some (24, false))] [(15, 0), (16, 1), (17, 2), (18, 3), (19, 4), (20, 5), (21, 6), (22, 7), (23, 8), (24, 9), (25, 10), (26, 11), (27, 12), (28, 13), (29, 14), (30, 15), (31, 16), (32, 17), (33, 18), (34, 19), (35, 20), (36, 21)] rfl (by kernel_rfl) (by kernel_rfl) (show Stable Grew _ from ⟨Is.stable _, Is.stable _, Is.stable _, Is.stable _, Is.stable _, Is.stable _, Is.stable _, Is.stable _, Is.stable _, Is.stable _, Is.stable _, Is.stable _, Is.stable _, Is.stable _, Is.stable _, Is.stable _, Is.stable _, Is.stable _, Is.stable _, Is.stable _, Is.stable _, Is.stable _, trivial⟩)
  · show OpsHold _ _ _ _ _ _ _ _ _
    refine ⟨fun a_ wx hR hD K hK => ?_, ?_⟩
    · have hG : Grew w1 wx := (Grew.drew _).trans hR
      simp [Deps, Dep, at_, Is] at hD
      go_simp
      exact hK _ _ (Grew.refl _) rfl
    refine ⟨fun a_ wx hR hD K hK => ?_, ?_⟩
    · have hG : Grew w1 wx := (Grew.drew _).trans hR
      simp [Deps, Dep, at_, Is] at hD
      go_simp
      exact hK _ _ (Grew.refl _) rfl
    refine ⟨fun a_ wx hR hD K hK => ?_, ?_⟩
    · have hG : Grew w1 wx := (Grew.drew _).trans hR
      simp [Deps, Dep, at_, Is] at hD
      go_simp
      exact hK _ _ (Grew.refl _) rfl
    refine ⟨fun a_ wx hR hD K hK => ?_, ?_⟩
    · have hG : Grew w1 wx := (Grew.drew _).trans hR
      simp [Deps, Dep, at_, Is] at hD
      have e_ := HC.out wx (Grew.trans hg1 hG)
      go_simp
      exact hK _ _ (Grew.refl _) rfl
    refine ⟨fun a_ wx hR hD K hK => ?_, ?_⟩
    · have hG : Grew w1 wx := (Grew.drew _).trans hR
      simp [Deps, Dep, at_, Is] at hD
      go_simp
      exact hK _ _ (Grew.refl _) rfl
    refine ⟨fun a_ wx hR hD K hK => ?_, ?_⟩
    · have hG : Grew w1 wx := (Grew.drew _).trans hR
      simp [Deps, Dep, at_, Is] at hD
      go_simp
      exact hK _ _ (Grew.refl _) rfl
    refine ⟨fun a_ wx hR hD K hK => ?_, ?_⟩
    · have hG : Grew w1 wx := (Grew.drew _).trans hR
      simp [Deps, Dep, at_, Is] at hD
      go_simp
      exact hK _ _ (Grew.refl _) rfl
    refine ⟨fun a_ wx hR hD K hK => ?_, ?_⟩
    · have hG : Grew w1 wx := (Grew.drew _).trans hR
      simp [Deps, Dep, at_, Is] at hD
      obtain ⟨hd0, hd1⟩ := hD
      go_simp
      exact hK _ _ (Grew.refl _) rfl
    refine ⟨fun a_ wx hR hD K hK => ?_, ?_⟩
    · have hG : Grew w1 wx := (Grew.drew _).trans hR
      simp [Deps, Dep, at_, Is] at hD
      go_simp
      exact hK _ _ (Grew.refl _) rfl
    refine ⟨fun a_ wx hR hD K hK => ?_, ?_⟩
    · have hG : Grew w1 wx := (Grew.drew _).trans hR
      simp [Deps, Dep, at_, Is] at hD
      go_simp
      exact hK _ _ (Grew.refl _) rfl
    refine ⟨fun a_ wx hR hD => ⟨fun hgd K hK => ?_, fun hgd => ?_⟩, ?_⟩
    · have hG : Grew w1 wx := (Grew.drew _).trans hR
      exfalso
      simp [Deps, Dep, at_, Is] at hD
      simp_all
    · exact rfl
    refine ⟨fun a_ wx hR hD => ⟨fun hgd K hK => ?_, fun hgd => ?_⟩, ?_⟩
    · have hG : Grew w1 wx := (Grew.drew _).trans hR
      exfalso
      simp [Deps, Dep, at_, Is] at hD
      simp_all
    · exact rfl
    refine ⟨fun a_ wx hR hD => ⟨fun hgd K hK => ?_, fun hgd => ?_⟩, ?_⟩
    · have hG : Grew w1 wx := (Grew.drew _).trans hR
      exfalso
      simp [Deps, Dep, at_, Is] at hD
      simp_all
    · exact rfl
    refine ⟨fun a_ wx hR hD => ⟨fun hgd K hK => ?_, fun hgd => ?_⟩, ?_⟩
    · have hG : Grew w1 wx := (Grew.drew _).trans hR
      exfalso
      simp [Deps, Dep, at_, Is] at hD
      simp_all
    · exact rfl
    refine ⟨fun a_ wx hR hD => ⟨fun hgd K hK => ?_, fun hgd => ?_⟩, ?_⟩
    · have hG : Grew w1 wx := (Grew.drew _).trans hR
      exfalso
      simp [Deps, Dep, at_, Is] at hD
      simp_all
    · exact rfl
    refine ⟨fun a_ wx hR hD => ⟨fun hgd K hK => ?_, fun hgd => ?_⟩, ?_⟩
    · have hG : Grew w1 wx := (Grew.drew _).trans hR
      exfalso
      simp [Deps, Dep, at_, Is] at hD
      simp_all
    · exact rfl
    refine ⟨fun a_ wx hR hD => ⟨fun hgd K hK => ?_, fun hgd => ?_⟩, ?_⟩
    · have hG : Grew w1 wx := (Grew.drew _).trans hR
      exfalso
      simp [Deps, Dep, at_, Is] at hD
      simp_all
    · exact rfl
    refine ⟨fun a_ wx hR hD => ⟨fun hgd K hK => ?_, fun hgd => ?_⟩, ?_⟩
    · have hG : Grew w1 wx := (Grew.drew _).trans hR
      exfalso
      simp [Deps, Dep, at_, Is] at hD
      simp_all
    · exact rfl
    refine ⟨fun a_ wx hR hD => ⟨fun hgd K hK => ?_, fun hgd => ?_⟩, ?_⟩
    · have hG : Grew w1 wx := (Grew.drew _).trans hR
      exfalso
      simp [Deps, Dep, at_, Is] at hD
      simp_all
    · exact rfl
    refine ⟨fun a_ wx hR hD => ⟨fun hgd K hK => ?_, fun hgd => ?_⟩, ?_⟩
    · have hG : Grew w1 wx := (Grew.drew _).trans hR
      exfalso
      simp [Deps, Dep, at_, Is] at hD
      simp_all
    · exact rfl
    refine ⟨fun a_ wx hR hD => ⟨fun hgd K hK => ?_, fun hgd => ?_⟩, ?_⟩
    · have hG : Grew w1 wx := (Grew.drew _).trans hR
      exfalso
      simp [Deps, Dep, at_, Is] at hD
      simp_all
    · exact rfl
    refine ⟨fun a_ wx hR hD => ⟨fun hgd K hK => ?_, fun hgd => ?_⟩, ?_⟩
    · have hG : Grew w1 wx := (Grew.drew _).trans hR
      exfalso
      simp [Deps, Dep, at_, Is] at hD
      simp_all
    · exact rfl
    trivial
  · show EndHold _ _ _ _ _ _ _
    refine end_all (xs := [_, _, _, _, _, _, _, _, _, _, _, _, _, _, _, _, _, _, _, _, _, _]) ⟨rfl, rfl, rfl, rfl, rfl, rfl, rfl, rfl, rfl, rfl, rfl, rfl, rfl, rfl, rfl, rfl, rfl, rfl, rfl, rfl, rfl, rfl, trivial⟩ ?_
    rintro w2 hR1 -
    refine ⟨?_⟩
    have hG_w2 : Grew w1 w2 := (Grew.drew _).trans hR1
    clear hR1
    simp only [Act.put, List.setIfInBounds_toArray, List.set_cons_succ, List.set_cons_zero, dropN, putEach]
    go_wp2_with fail
    go_ret
    exact ⟨_, rfl, rfl, Grew.trans hg1 hG_w2⟩
theorem R_upd_typed {α : Type} {d : Kd α} {e base : Nat} {w w' : World} {v : Value} {xs : List α} {S : Nat → Prop} (hE : d.E = []) (h : d.R e w base (fun _ => True) v xs) (hu : Upd S w w') (hS : ∀ k cells, w.heap[k]? = some (.cells cells e (0, 0)) → ¬ S k) : d.R e w' base (fun _ => True) v xs :=
  Kd.R_mono (Kd.R_step (Kd.R_bound h) (fun k hk hlt => hu.block k hlt (by
    obtain ⟨_, _, _, q, hq, cells, hc⟩ := hk
    rw [hE] at hq
    obtain rfl : q = e := by simpa using hq
    exact hS k cells hc))) (fun _ _ => trivial)
/-- the row behind an append -/
def AppO (base : Nat) (e : TypeId) (size : Nat) (cs : List Value) (n : Nat) (vb : Value) (N : Nat) : World → Value → Prop := fun w v => RowO w base e size v n cs ∧ (v.ownBlock = vb.ownBlock ∨ ∃ k, v.ownBlock = some k ∧ N ≤ k)
theorem SndM.app {B g : Nat} {v v1 : Value} {l : List S86} {f n : Int} {w w' : World} {x : S86} (h : SndM B g v l f n w) (hu : Upd (fun k => v.ownBlock = some k) w w')
    (hrow : RowO w' B 86 8 v1 (l.length + 1) (sdc l ++ sdc1 x)) : SndM B g v1 (l ++ [x]) f n (w'.setCell ⟨g, 0, none⟩ v1) := by
  have hc := h.cells.upd hu h.ne
  have hne := hrow.ne hc (by decide)
  have hset : Upd (fun k => k = g) w' (w'.setCell ⟨g, 0, none⟩ v1) := Upd.set (S := fun k => k = g) (p := ⟨g, 0, none⟩) (Upd.refl _ _) (.inl rfl) _
  refine ⟨?_, ?_, h.hg⟩
  · have := hc.set 0 v1
    simpa using this
  · rw [List.length_append, sdc_snoc]
    exact hrow.upd hset fun k hk e => hne (by rw [hk, e])
theorem SndM.typed {B g : Nat} {v : Value} {l : List S86} {f n : Int} {w : World} (h : SndM B g v l f n w) : ∀ k cells, w.heap[k]? = some (.cells cells 30 (0, 0)) → ¬ sndS g v k := by
  intro k cells hk hs
  have hb : Blk w k 30 cells.toList := by unfold Blk; rw [Array.toArray_toList]; exact hk
  rcases hs with rfl | hs
  · have hc := h.cells
    unfold Blk at hc
    rw [hk] at hc
    injection hc with hc
    injection hc with h1 h2 h3
    exact absurd h2 (by decide)
  · exact h.row.ne hb (by decide) hs
theorem infoSd : (Try.prog.info? 86).map (fun i => (i.zero, i.size, i.bytes)) = some (some (.agg #[.bool false, .int .i64 0, .bool false, .string ⟨#[]⟩, .int .i64 0, .bool false, .int .i64 0, .bool false]), 8, 72) := by kernel_rfl
theorem sdc1_one (x : S86) : ∀ u ∈ sdc1 x, u.oneCell' = true := by
  intro u hu
  simp [sdc1] at hu
  rcases hu with rfl | rfl | rfl | rfl | rfl | rfl | rfl | rfl <;> rfl
def pkc (p : S30) : List Value := [.bool p.f0, .int .i64 p.f1, .bool p.f2, .string p.f3, .int .i64 p.f4]
set_option maxHeartbeats 8000000 in
theorem sput_c (w : World) (B g : Nat) (v : Value) (l : List S86) (f n : Int) (hS : SndM B g v l f n w) (m : ByteArray) (h : m.size ≤ 4096) (hfit : l.length + (cutP m).length ≤ 64) (hf0 : 0 ≤ f) (hf1 : f ≤ 1000000) (hB : B ≤ w.heap.size) :
    Calls Try.prog 22 #[.pointer (some ⟨g, 0, none⟩), .string m] w (PutD B g v l f n 0 (l ++ fresh (f + (l.length : Int)) (cutP m)) w) := by
  have H1 := Lib.hid (link_cut.calls _ m _ w (cut_f m (by omega)))
  obtain ⟨C, hC⟩ : ∃ C, C = cutP m := ⟨_, rfl⟩
  rw [← hC] at H1 hfit ⊢
  obtain ⟨q, hq⟩ : ∃ q, q = C.length := ⟨_, rfl⟩
  obtain ⟨k, hk⟩ : ∃ k, k = l.length := ⟨_, rfl⟩
  rw [← hq, ← hk] at hfit
  rw [← hk]
  have HQ := Lib.hid hq
  have HK := Lib.hid hk
  have HS := Lib.hid hS
  obtain ⟨A, cc, rfl, hcc⟩ := hS.row.slice
  have HC := Lib.hid (fun wx (hG : Grew w wx) => (show wx.cell? ⟨g, 0, none⟩ = some (.slice A k cc) from by rw [(hS.cells.grew hG).at_, hk]; rfl))
  have HC1 := Lib.hid (fun wx (hG : Grew w wx) => (show wx.cell? ⟨g, 1, none⟩ = some (.int .i64 f) from by rw [(hS.cells.grew hG).at_]; rfl))
  obtain ⟨ms, hms⟩ : ∃ ms, m.size = ms := ⟨_, rfl⟩
  have d1 : decide (4096 < (ms : Int)) = false := decide_eq_false (by omega)
  have d2 : decide (4096 < ms) = false := decide_eq_false (by omega)
  obtain ⟨F, rfl⟩ := Int.eq_ofNat_of_zero_le hf0
  clear hS hk hq h hC hf0
  go_enter Try.func22, Try.ntmps22
  go_wp2_with fail
  refine H1.out.mono ?_
  rintro e w1 ⟨v5, rfl, hR, hg1⟩
  obtain ⟨A5, c5, rfl, hc5, -⟩ := Kd.R_reads hR
  rw [← HQ.out] at hc5
  have HR := Lib.hid hR
  rw [← HQ.out] at HR
  clear hR
  go_wp2_with fail
  rw [← HQ.out]
  have d3 : decide (64 < (k : Int) + (q : Int)) = false := decide_eq_false (by omega)
  have d4 : decide (1099511627776 < (F : Int) + (k : Int) + (q : Int) - 1) = false := decide_eq_false (by omega)
  have hw1 : IntKind.i64.wrap ((k : Int) + (q : Int)) = (k : Int) + (q : Int) := IntWalk.i64_in _ (by omega)
  have hw2 : IntKind.i64.wrap ((F : Int) + (k : Int)) = (F : Int) + (k : Int) := IntWalk.i64_in _ (by omega)
  have hw3 : IntKind.i64.wrap ((F : Int) + (k : Int) + (q : Int)) = (F : Int) + (k : Int) + (q : Int) := IntWalk.i64_in _ (by omega)
  have hw4 : IntKind.i64.wrap ((F : Int) + (k : Int) + (q : Int) - 1) = (F : Int) + (k : Int) + (q : Int) - 1 := IntWalk.i64_in _ (by omega)
  apply region_grew [Is _, Is _, Is _, Is _, Is _, Is _, Is _, Is _, Is _, Is _, Is _, Is _, Is _, Is _, Is _, Is _, Is _, Is _, Is _, Is _, Is _, Is _] [([(0, none)], none), ([(15, some 0)], none), ([(16, some 1)], none), ([(17, some 2)], none), ([(18, some 3)], none), ([(5, none)], none), ([(20, some 5)], none), ([(19, some 4), (21, some 6)], none), ([(22, some 7)], none), ([(23, some 8)], none), ([(0, none), (24, some 9)], some (24, false)), ([(25, some 10), (24, some 9)], some (24, false)), ([(26, some 11), (24, some 9)], some (24, false)), ([(27, some 12), (24, some 9)], some (24, false)), ([(0, none), (24, some 9)], some (24, false)), ([(29, some 14), (24, some 9)], some (24, false)), ([(30, some 15), (24, some 9)], some (24, false)), ([(31, some 16), (24, some 9)], some (24, false)), ([(32, some 17), (24, some 9)], some (24, false)), ([(28, some 13), (33, some 18), (24, some 9)], some (24, false)), ([(5, none), (24, some 9)], some (24, false)), ([(35, some 20), (24, some 9)], some (24, false))] [(15, 0), (16, 1), (17, 2), (18, 3), (19, 4), (20, 5), (21, 6), (22, 7), (23, 8), (24, 9), (25, 10), (26, 11), (27, 12), (28, 13), (29, 14), (30, 15), (31, 16), (32, 17), (33, 18), (34, 19), (35, 20), (36, 21)] rfl (by kernel_rfl) (by kernel_rfl) (show Stable Grew _ from ⟨Is.stable _, Is.stable _, Is.stable _, Is.stable _, Is.stable _, Is.stable _, Is.stable _, Is.stable _, Is.stable _, Is.stable _, Is.stable _, Is.stable _, Is.stable _, Is.stable _, Is.stable _, Is.stable _, Is.stable _, Is.stable _, Is.stable _, Is.stable _, Is.stable _, Is.stable _, trivial⟩)
  · show OpsHold _ _ _ _ _ _ _ _ _
    refine ⟨fun a_ wx hR hD K hK => ?_, ?_⟩
    · have hG : Grew w1 wx := (Grew.drew _).trans hR
      simp [Deps, Dep, at_, Is] at hD
      go_simp
      exact hK _ _ (Grew.refl _) rfl
    refine ⟨fun a_ wx hR hD K hK => ?_, ?_⟩
    · have hG : Grew w1 wx := (Grew.drew _).trans hR
      simp [Deps, Dep, at_, Is] at hD
      go_simp
      exact hK _ _ (Grew.refl _) rfl
    refine ⟨fun a_ wx hR hD K hK => ?_, ?_⟩
    · have hG : Grew w1 wx := (Grew.drew _).trans hR
      simp [Deps, Dep, at_, Is] at hD
      go_simp
      exact hK _ _ (Grew.refl _) rfl
    refine ⟨fun a_ wx hR hD K hK => ?_, ?_⟩
    · have hG : Grew w1 wx := (Grew.drew _).trans hR
      simp [Deps, Dep, at_, Is] at hD
      have e_ := HC.out wx (Grew.trans hg1 hG)
      go_simp
      exact hK _ _ (Grew.refl _) rfl
    refine ⟨fun a_ wx hR hD K hK => ?_, ?_⟩
    · have hG : Grew w1 wx := (Grew.drew _).trans hR
      simp [Deps, Dep, at_, Is] at hD
      go_simp
      exact hK _ _ (Grew.refl _) rfl
    refine ⟨fun a_ wx hR hD K hK => ?_, ?_⟩
    · have hG : Grew w1 wx := (Grew.drew _).trans hR
      simp [Deps, Dep, at_, Is] at hD
      go_simp
      exact hK _ _ (Grew.refl _) rfl
    refine ⟨fun a_ wx hR hD K hK => ?_, ?_⟩
    · have hG : Grew w1 wx := (Grew.drew _).trans hR
      simp [Deps, Dep, at_, Is] at hD
      go_simp
      exact hK _ _ (Grew.refl _) rfl
    refine ⟨fun a_ wx hR hD K hK => ?_, ?_⟩
    · have hG : Grew w1 wx := (Grew.drew _).trans hR
      simp [Deps, Dep, at_, Is] at hD
      obtain ⟨hd0, hd1⟩ := hD
      go_simp
      exact hK _ _ (Grew.refl _) rfl
    refine ⟨fun a_ wx hR hD K hK => ?_, ?_⟩
    · have hG : Grew w1 wx := (Grew.drew _).trans hR
      simp [Deps, Dep, at_, Is] at hD
      go_simp
      exact hK _ _ (Grew.refl _) rfl
    refine ⟨fun a_ wx hR hD K hK => ?_, ?_⟩
    · have hG : Grew w1 wx := (Grew.drew _).trans hR
      simp [Deps, Dep, at_, Is] at hD
      go_simp
      exact hK _ _ (Grew.refl _) rfl
    refine ⟨fun a_ wx hR hD => ⟨fun hgd K hK => ?_, fun hgd => ?_⟩, ?_⟩
    · have hG : Grew w1 wx := (Grew.drew _).trans hR
      clear hgd
      simp [Deps, Dep, at_, Is] at hD
      obtain ⟨hd0, hd1⟩ := hD
      go_simp
      exact hK _ _ (Grew.refl _) rfl
    · have hG : Grew w1 wx := (Grew.drew _).trans hR
      exfalso
      simp [Deps, Dep, at_, Is] at hD
      simp_all
    refine ⟨fun a_ wx hR hD => ⟨fun hgd K hK => ?_, fun hgd => ?_⟩, ?_⟩
    · have hG : Grew w1 wx := (Grew.drew _).trans hR
      clear hgd
      simp [Deps, Dep, at_, Is] at hD
      obtain ⟨hd0, hd1⟩ := hD
      go_simp
      exact hK _ _ (Grew.refl _) rfl
    · have hG : Grew w1 wx := (Grew.drew _).trans hR
      exfalso
      simp [Deps, Dep, at_, Is] at hD
      simp_all
    refine ⟨fun a_ wx hR hD => ⟨fun hgd K hK => ?_, fun hgd => ?_⟩, ?_⟩
    · have hG : Grew w1 wx := (Grew.drew _).trans hR
      clear hgd
      simp [Deps, Dep, at_, Is] at hD
      obtain ⟨hd0, hd1⟩ := hD
      go_simp
      exact hK _ _ (Grew.refl _) rfl
    · have hG : Grew w1 wx := (Grew.drew _).trans hR
      exfalso
      simp [Deps, Dep, at_, Is] at hD
      simp_all
    refine ⟨fun a_ wx hR hD => ⟨fun hgd K hK => ?_, fun hgd => ?_⟩, ?_⟩
    · have hG : Grew w1 wx := (Grew.drew _).trans hR
      clear hgd
      simp [Deps, Dep, at_, Is] at hD
      obtain ⟨hd0, hd1⟩ := hD
      have e_ := HC1.out wx (Grew.trans hg1 hG)
      go_simp
      exact hK _ _ (Grew.refl _) rfl
    · have hG : Grew w1 wx := (Grew.drew _).trans hR
      exfalso
      simp [Deps, Dep, at_, Is] at hD
      simp_all
    refine ⟨fun a_ wx hR hD => ⟨fun hgd K hK => ?_, fun hgd => ?_⟩, ?_⟩
    · have hG : Grew w1 wx := (Grew.drew _).trans hR
      clear hgd
      simp [Deps, Dep, at_, Is] at hD
      obtain ⟨hd0, hd1⟩ := hD
      go_simp
      exact hK _ _ (Grew.refl _) rfl
    · have hG : Grew w1 wx := (Grew.drew _).trans hR
      exfalso
      simp [Deps, Dep, at_, Is] at hD
      simp_all
    refine ⟨fun a_ wx hR hD => ⟨fun hgd K hK => ?_, fun hgd => ?_⟩, ?_⟩
    · have hG : Grew w1 wx := (Grew.drew _).trans hR
      clear hgd
      simp [Deps, Dep, at_, Is] at hD
      obtain ⟨hd0, hd1⟩ := hD
      go_simp
      exact hK _ _ (Grew.refl _) rfl
    · have hG : Grew w1 wx := (Grew.drew _).trans hR
      exfalso
      simp [Deps, Dep, at_, Is] at hD
      simp_all
    refine ⟨fun a_ wx hR hD => ⟨fun hgd K hK => ?_, fun hgd => ?_⟩, ?_⟩
    · have hG : Grew w1 wx := (Grew.drew _).trans hR
      clear hgd
      simp [Deps, Dep, at_, Is] at hD
      obtain ⟨hd0, hd1⟩ := hD
      go_simp
      exact hK _ _ (Grew.refl _) rfl
    · have hG : Grew w1 wx := (Grew.drew _).trans hR
      exfalso
      simp [Deps, Dep, at_, Is] at hD
      simp_all
    refine ⟨fun a_ wx hR hD => ⟨fun hgd K hK => ?_, fun hgd => ?_⟩, ?_⟩
    · have hG : Grew w1 wx := (Grew.drew _).trans hR
      clear hgd
      simp [Deps, Dep, at_, Is] at hD
      obtain ⟨hd0, hd1⟩ := hD
      have e_ := HC.out wx (Grew.trans hg1 hG)
      go_simp
      exact hK _ _ (Grew.refl _) rfl
    · have hG : Grew w1 wx := (Grew.drew _).trans hR
      exfalso
      simp [Deps, Dep, at_, Is] at hD
      simp_all
    refine ⟨fun a_ wx hR hD => ⟨fun hgd K hK => ?_, fun hgd => ?_⟩, ?_⟩
    · have hG : Grew w1 wx := (Grew.drew _).trans hR
      clear hgd
      simp [Deps, Dep, at_, Is] at hD
      obtain ⟨hd0, hd1⟩ := hD
      go_simp
      exact hK _ _ (Grew.refl _) rfl
    · have hG : Grew w1 wx := (Grew.drew _).trans hR
      exfalso
      simp [Deps, Dep, at_, Is] at hD
      simp_all
    refine ⟨fun a_ wx hR hD => ⟨fun hgd K hK => ?_, fun hgd => ?_⟩, ?_⟩
    · have hG : Grew w1 wx := (Grew.drew _).trans hR
      clear hgd
      simp [Deps, Dep, at_, Is] at hD
      obtain ⟨hd0, hd1, hd2⟩ := hD
      go_simp
      exact hK _ _ (Grew.refl _) rfl
    · have hG : Grew w1 wx := (Grew.drew _).trans hR
      exfalso
      simp [Deps, Dep, at_, Is] at hD
      simp_all
    refine ⟨fun a_ wx hR hD => ⟨fun hgd K hK => ?_, fun hgd => ?_⟩, ?_⟩
    · have hG : Grew w1 wx := (Grew.drew _).trans hR
      clear hgd
      simp [Deps, Dep, at_, Is] at hD
      obtain ⟨hd0, hd1⟩ := hD
      go_simp
      exact hK _ _ (Grew.refl _) rfl
    · have hG : Grew w1 wx := (Grew.drew _).trans hR
      exfalso
      simp [Deps, Dep, at_, Is] at hD
      simp_all
    refine ⟨fun a_ wx hR hD => ⟨fun hgd K hK => ?_, fun hgd => ?_⟩, ?_⟩
    · have hG : Grew w1 wx := (Grew.drew _).trans hR
      clear hgd
      simp [Deps, Dep, at_, Is] at hD
      obtain ⟨hd0, hd1⟩ := hD
      go_simp
      exact hK _ _ (Grew.refl _) rfl
    · have hG : Grew w1 wx := (Grew.drew _).trans hR
      exfalso
      simp [Deps, Dep, at_, Is] at hD
      simp_all
    trivial
  · show EndHold _ _ _ _ _ _ _
    refine end_all (xs := [_, _, _, _, _, _, _, _, _, _, _, _, _, _, _, _, _, _, _, _, _, _]) ⟨rfl, rfl, rfl, rfl, rfl, rfl, rfl, rfl, rfl, rfl, rfl, rfl, rfl, rfl, rfl, rfl, rfl, rfl, rfl, rfl, rfl, rfl, trivial⟩ ?_
    rintro w2 hR1 -
    refine ⟨?_⟩
    have hG_w2 : Grew w1 w2 := (Grew.drew _).trans hR1
    clear hR1
    simp only [Act.put, List.setIfInBounds_toArray, List.set_cons_succ, List.set_cons_zero, dropN, putEach]
    clear hw1 hw2 hw3 hw4 d3 d4
    go_wp2_with fail
    have hz0 : RowO w B 86 8 (.slice A l.length cc) l.length (sdc l) := HS.out.row
    have hS2 := (HS.out.grew hg1).grew hG_w2
    have hR2 := Kd.R_below HR.out hG_w2
    have hu2 : Upd (sndS g (.slice A l.length cc)) w w2 := Upd.of_grew (Grew.trans hg1 hG_w2)
    have H0 := Lib.hid hz0
    clear hz0
    go_loopw [43] (fun iv wr => ∃ (pre suf : List S30) (v' : Value), iv = .int .i64 (pre.length : Int) ∧ C = pre ++ suf ∧ SndM B g v' (l ++ fresh ((F : Int) + (k : Int)) pre) (F : Int) n wr ∧ Kd.R k30 30 wr w.heap.size (fun _ => True) (.slice A5 q c5) C ∧ Upd (sndS g (.slice A l.length cc)) w wr ∧ (v'.ownBlock = (Value.slice A l.length cc).ownBlock ∨ ∃ k, v'.ownBlock = some k ∧ w.heap.size ≤ k)) (fun iv _ => q - (intOf iv).toNat)
    case atStart => exact ⟨[], C, _, rfl, rfl, by simpa [fresh] using hS2, hR2, hu2, .inl rfl⟩
    case round =>
      obtain ⟨pre, suf, v', rfl, hp, hI, hRr, hur, hat⟩ := hrel
      have hnn := HQ.out
      rw [hp, List.length_append] at hnn
      clear hS2 hR2 hu2
      rcases suf with _ | ⟨p, suf⟩
      · have e1 : decide ((pre.length : Int) < (q : Int)) = false := decide_eq_false (by simp at hnn; omega)
        have e2 : decide (pre.length < q) = false := decide_eq_false (by simp at hnn; omega)
        rw [List.append_nil] at hp
        have HP := Lib.hid hp
        have HI := Lib.hid hI
        clear hp hnn hI
        go_wp2_with fail
        go_ret
        exact ⟨v', rfl, by rw [HP.out]; exact HI.out, hur, hat⟩
      · have hlt : pre.length < q := by simp at hnn; omega
        have e1 : decide ((pre.length : Int) < (q : Int)) = true := decide_eq_true (by omega)
        have e2 : decide (pre.length < q) = true := decide_eq_true hlt
        have i1 : (pre.length : Int) < (q : Int) := by omega
        have hC5 := (Kd.R_reads' hRr).2.2
        rw [← HQ.out] at hC5
        obtain ⟨ad0, rfl, k0, k1, k2, k3, k4⟩ := at_T30 hC5 (pre.length : Int) (by omega) (by omega)
        have hxe : rd_T30 C (pre.length : Int) = p := by
          unfold rd_T30; rw [Int.toNat_natCast, hp]; simp [List.getD]
        rw [Int.toNat_natCast, hxe] at k0 k1 k2 k3 k4
        have HP := Lib.hid (show C = (pre ++ [p]) ++ suf from by rw [hp]; simp)
        obtain ⟨f0, f1, f2, f3, f4⟩ := p
        have HRR := Lib.hid hRr
        have HUR := Lib.hid hur
        have HAT := Lib.hid hat
        have HII := Lib.hid hI
        clear hp hnn hxe hC5 hRr hur hat hI
        go_wp2_with fail
        obtain ⟨g7, hg7⟩ : ∃ g7, g7 = wr.heap.size := ⟨_, rfl⟩
        obtain ⟨W2, hW2⟩ : ∃ W2, W2 = wr.alloc (.cells #[.bool f0, .int .i64 f1, .bool f2, .string f3, .int .i64 f4] 30) := ⟨_, rfl⟩
        have hb7 : Blk W2 g7 30 [.bool f0, .int .i64 f1, .bool f2, .string f3, .int .i64 f4] := by rw [hW2, hg7]; exact Blk.new wr _ _
        have hgr2 : Grew wr W2 := by rw [hW2]; exact Grew.alloc _ _
        rw [← hg7, ← hW2]
        have hI2 := HII.out.grew hgr2
        obtain ⟨A3, c3, hv3, hc3⟩ := hI2.row.slice
        subst hv3
        obtain ⟨KN, hK⟩ : ∃ KN, KN = (l ++ fresh ((F : Int) + (k : Int)) pre).length := ⟨_, rfl⟩
        have hKe : KN = k + pre.length := by rw [hK, List.length_append, fresh_len, HK.out]
        have hx : fresh ((F : Int) + (k : Int)) (pre ++ [⟨f0, f1, f2, f3, f4⟩]) = fresh ((F : Int) + (k : Int)) pre ++ [⟨⟨f0, (F : Int) + (KN : Int), f2, f3, f4⟩, false, 0, false⟩] := by
          rw [fresh_snoc]; congr 4; omega
        rw [← hK] at hI2 HII hc3 HAT
        have HX := Lib.hid hx
        have HKK := Lib.hid hK
        have hk64 : KN ≤ 64 := by omega
        have CL := Lib.hid (show ∀ wx, Grew W2 wx → wx.cell? ⟨g, 0, none⟩ = some (.slice A3 KN c3) from fun wx h => by rw [(hI2.cells.grew h).at_]; rfl)
        have CF := Lib.hid (show ∀ wx, Grew W2 wx → wx.cell? ⟨g, 1, none⟩ = some (.int .i64 (F : Int)) from fun wx h => by rw [(hI2.cells.grew h).at_]; rfl)
        have hgne : g ≠ g7 := by have := HII.out.cells.lt; omega
        have HNE := Lib.hid hgne
        have HB7 := Lib.hid hb7
        have HI2 := Lib.hid hI2
        have HGR := Lib.hid hgr2
        have HG7 := Lib.hid hg7
        have hw2 : IntKind.i64.wrap ((F : Int) + (KN : Int)) = (F : Int) + (KN : Int) := IntWalk.i64_in _ (by omega)
        clear k0 k1 k2 k3 k4 hW2 hb7 hgr2 hI2 hg7 hx hK hKe hgne
        apply region_grew [Is _, Is _, Is _, Is _, Is _, Is _, Is _, Is _, Is _] [([(0, none)], none), ([(47, some 0)], none), ([(48, some 1)], none), ([(49, some 2)], none), ([(0, none)], none), ([(51, some 4)], none), ([(52, some 5)], none), ([(53, some 6)], none), ([(54, some 7)], none)] [(47, 0), (48, 1), (49, 2), (50, 3), (51, 4), (52, 5), (53, 6), (54, 7), (55, 8)] rfl (by kernel_rfl) (by kernel_rfl) (show Stable Grew _ from ⟨Is.stable _, Is.stable _, Is.stable _, Is.stable _, Is.stable _, Is.stable _, Is.stable _, Is.stable _, Is.stable _, trivial⟩)
        · show OpsHold _ _ _ _ _ _ _ _ _
          refine ⟨fun a_ wx hR hD K hK => ?_, ?_⟩
          · have hG : Grew W2 wx := (Grew.drew _).trans hR
            simp [Deps, Dep, at_, Is] at hD
            go_simp
            exact hK _ _ (Grew.refl _) rfl
          refine ⟨fun a_ wx hR hD K hK => ?_, ?_⟩
          · have hG : Grew W2 wx := (Grew.drew _).trans hR
            simp [Deps, Dep, at_, Is] at hD
            go_simp
            exact hK _ _ (Grew.refl _) rfl
          refine ⟨fun a_ wx hR hD K hK => ?_, ?_⟩
          · have hG : Grew W2 wx := (Grew.drew _).trans hR
            simp [Deps, Dep, at_, Is] at hD
            go_simp
            exact hK _ _ (Grew.refl _) rfl
          refine ⟨fun a_ wx hR hD K hK => ?_, ?_⟩
          · have hG : Grew W2 wx := (Grew.drew _).trans hR
            simp [Deps, Dep, at_, Is] at hD
            have e_ := CF.out wx hG
            go_simp
            exact hK _ _ (Grew.refl _) rfl
          refine ⟨fun a_ wx hR hD K hK => ?_, ?_⟩
          · have hG : Grew W2 wx := (Grew.drew _).trans hR
            simp [Deps, Dep, at_, Is] at hD
            go_simp
            exact hK _ _ (Grew.refl _) rfl
          refine ⟨fun a_ wx hR hD K hK => ?_, ?_⟩
          · have hG : Grew W2 wx := (Grew.drew _).trans hR
            simp [Deps, Dep, at_, Is] at hD
            go_simp
            exact hK _ _ (Grew.refl _) rfl
          refine ⟨fun a_ wx hR hD K hK => ?_, ?_⟩
          · have hG : Grew W2 wx := (Grew.drew _).trans hR
            simp [Deps, Dep, at_, Is] at hD
            go_simp
            exact hK _ _ (Grew.refl _) rfl
          refine ⟨fun a_ wx hR hD K hK => ?_, ?_⟩
          · have hG : Grew W2 wx := (Grew.drew _).trans hR
            simp [Deps, Dep, at_, Is] at hD
            have e_ := CL.out wx hG
            go_simp
            exact hK _ _ (Grew.refl _) rfl
          refine ⟨fun a_ wx hR hD K hK => ?_, ?_⟩
          · have hG : Grew W2 wx := (Grew.drew _).trans hR
            simp [Deps, Dep, at_, Is] at hD
            go_simp
            exact hK _ _ (Grew.refl _) rfl
          trivial
        · show EndHold _ _ _ _ _ _ _
          refine end_all (xs := [_, _, _, _, _, _, _, _, _]) ⟨rfl, rfl, rfl, rfl, rfl, rfl, rfl, rfl, rfl, trivial⟩ ?_
          rintro w3 hR1 -
          refine ⟨?_⟩
          have hG_w3 : Grew W2 w3 := (Grew.drew _).trans hR1
          clear hR1
          simp only [Act.put, List.setIfInBounds_toArray, List.set_cons_succ, List.set_cons_zero, dropN, putEach]
          have hb3 := HB7.out.grew hG_w3
          have q1 := hb3.at_ 1
          have ff := hb3.fz 1
          simp only [List.getElem?_cons_zero, List.getElem?_cons_succ] at q1
          have hb4 := hb3.set 1 (.int .i64 ((F : Int) + (KN : Int)))
          obtain ⟨W4, hW4⟩ : ∃ W4, W4 = w3.setCell ⟨g7, 1, none⟩ (.int .i64 ((F : Int) + (KN : Int))) := ⟨_, rfl⟩
          rw [← hW4] at hb4
          have hu4 : Upd (fun k => k = g7) W2 W4 := by rw [hW4]; exact Upd.set (S := fun k => k = g7) (p := ⟨g7, 1, none⟩) (Upd.of_grew hG_w3) (.inl rfl) _
          have hu4' : Grew wr W4 := ((Upd.of_grew (S := fun k => k = g7) HGR.out).trans hu4).grew (fun i hi e => by have := HG7.out; omega)
          have hI4 := HII.out.grew hu4'
          have HW4 := Lib.hid hW4
          have HGW4 := Lib.hid hu4'
          have CL4 := Lib.hid (show ∀ wx, Grew W4 wx → wx.cell? ⟨g, 0, none⟩ = some (.slice A3 KN c3) from fun wx h => by rw [(hI4.cells.grew h).at_]; rfl)
          have CB := Lib.hid (show ∀ wx, Grew W4 wx → (wx.cell? ⟨g7, 0, none⟩ = some (.bool f0) ∧ wx.cell? ⟨g7, 1, none⟩ = some (.int .i64 ((F : Int) + (KN : Int))) ∧ wx.cell? ⟨g7, 2, none⟩ = some (.bool f2) ∧ wx.cell? ⟨g7, 3, none⟩ = some (.string f3) ∧ wx.cell? ⟨g7, 4, none⟩ = some (.int .i64 f4)) from fun wx h => ⟨by rw [(hb4.grew h).at_]; rfl, by rw [(hb4.grew h).at_]; rfl, by rw [(hb4.grew h).at_]; rfl, by rw [(hb4.grew h).at_]; rfl, by rw [(hb4.grew h).at_]; rfl⟩)
          have hlr0 := hI4.row.lt
          have hbase4 : B ≤ W4.heap.size := Nat.le_trans (Nat.le_trans hB HUR.out.size) hu4'.size
          have hro : RowO W4 B 86 8 (.slice A3 KN c3) KN (sdc (l ++ fresh ((F : Int) + (k : Int)) pre)) := by
            have := hI4.row
            rw [← HKK.out] at this
            exact this
          have HRO := Lib.hid hro
          have HI4 := Lib.hid hI4
          clear hb3 hb4 hu4 hu4' hI4 hw2 hW4 hG_w3 hro
          go_wp2_with fail
          rw [← HW4.out]
          clear q1 ff
          apply region_big (fun w w' => w.grownBy w' (Value.slice A3 KN c3).ownBlock) [.float, .plain, .plain, .plain, .plain, .plain, .plain, .plain, .big] [Is _, Is _, Is _, Is _, Is _, Is _, Is _, OneC 86 [.bool f0, .int .i64 ((F : Int) + (KN : Int)), .bool f2, .string f3, .int .i64 f4, .bool false, .int .i64 0, .bool false] (.slice A3 KN c3), AppO B 86 8 (sdc (l ++ fresh ((F : Int) + (k : Int)) pre) ++ sdc1 ⟨⟨f0, (F : Int) + (KN : Int), f2, f3, f4⟩, false, 0, false⟩) (KN + 1) (.slice A3 KN c3) W4.heap.size] [([(0, none)], none), ([(0, none)], none), ([(59, some 1)], none), ([(60, some 2)], none), ([(61, some 3)], none), ([(7, none)], none), ([(63, some 5)], none), ([(64, some 6)], none), ([(62, some 4), (65, some 7)], none)] [(65, 7), (66, 8), (58, 0), (59, 1), (60, 2), (61, 3), (62, 4), (63, 5), (64, 6)] rfl (by kernel_rfl) (by kernel_rfl) (by kernel_rfl) (by kernel_rfl) rfl (show StableB Grew _ _ _ from ⟨(fun _ => Is.stableB _), (fun _ => Is.stableB _), (fun _ => Is.stableB _), (fun _ => Is.stableB _), (fun _ => Is.stableB _), (fun _ => Is.stableB _), (fun _ => Is.stableB _), (fun _ => OneC.stableB _ _ _), (fun h_ => absurd rfl h_), trivial⟩)
          · show PhHold _ _ _ _ _ _ _ _ _ _ _
            refine ⟨fun a_ wx hD K hK => ?_, ?_⟩
            · have hF_ := True.intro
              simp [Deps, Dep, at_, Is] at hD
              go_simp
              exact hK _ _ rfl rfl
            refine ⟨fun a_ wx hR hD K hK => ?_, ?_⟩
            · have hG : Grew W4 wx := (Grew.drew _).trans hR
              simp [Deps, Dep, at_, Is] at hD
              go_simp
              exact hK _ _ (Grew.refl _) rfl
            refine ⟨fun a_ wx hR hD K hK => ?_, ?_⟩
            · have hG : Grew W4 wx := (Grew.drew _).trans hR
              simp [Deps, Dep, at_, Is] at hD
              go_simp
              exact hK _ _ (Grew.refl _) rfl
            refine ⟨fun a_ wx hR hD K hK => ?_, ?_⟩
            · have hG : Grew W4 wx := (Grew.drew _).trans hR
              simp [Deps, Dep, at_, Is] at hD
              go_simp
              exact hK _ _ (Grew.refl _) rfl
            refine ⟨fun a_ wx hR hD K hK => ?_, ?_⟩
            · have hG : Grew W4 wx := (Grew.drew _).trans hR
              simp [Deps, Dep, at_, Is] at hD
              have e_ := CL4.out wx hG
              go_simp
              exact hK _ _ (Grew.refl _) rfl
            refine ⟨fun a_ wx hR hD K hK => ?_, ?_⟩
            · have hG : Grew W4 wx := (Grew.drew _).trans hR
              simp [Deps, Dep, at_, Is] at hD
              obtain ⟨e0, e1, e2, e3, e4⟩ := CB.out wx hG
              go_simp
              exact hK _ _ (Grew.refl _) rfl
            refine ⟨fun a_ wx hR hD K hK => ?_, ?_⟩
            · have hG : Grew W4 wx := (Grew.drew _).trans hR
              simp [Deps, Dep, at_, Is] at hD
              go_simp
              exact hK _ _ (Grew.refl _) rfl
            refine ⟨fun a_ wx hR hD K hK => ?_, ?_⟩
            · have hG : Grew W4 wx := (Grew.drew _).trans hR
              simp [Deps, Dep, at_, Is] at hD
              go_simp
              exact hK _ _ (Grew.alloc _ _) (OneC.new (fun k hk => Nat.lt_of_lt_of_le (hlr0 k hk) hG.size))
            refine ⟨⟨rfl, fun a_ wx hR hD K hK => ?_⟩, ?_⟩
            · have hG : Grew W4 wx := (Grew.drew _).trans hR
              simp [Deps, Dep, at_, Is] at hD
              obtain ⟨hd0, hd1⟩ := hD
              obtain ⟨g1, h1, h2, h3⟩ := hd1
              obtain ⟨v1, wy, hrun, hown1, hgr1, hat1⟩ := app_rowO (P := Try.prog) wx B 75 86 75 (.agg #[.bool false, .int .i64 0, .bool false, .string ⟨#[]⟩, .int .i64 0, .bool false, .int .i64 0, .bool false]) 8 72 Try.underlying75 infoSd rfl (by decide) (by decide) (.slice A3 KN c3) KN _ g1 _ rfl (sdc1_one ⟨⟨f0, (F : Int) + (KN : Int), f2, f3, f4⟩, false, 0, false⟩) (HRO.out.grew hG) h2 (Nat.le_trans hbase4 hG.size) (by omega)
              exact wp_app (.tmp 62) (.tmp 65) 75 (by rfl) (eval_tmp hd0) (eval_tmp h1) hrun (hK _ _ hgr1 ⟨hown1, hat1.imp id (fun ⟨k, h, h'⟩ => ⟨k, h, Nat.le_trans hG.size h'⟩)⟩)
            trivial
          · show EndHold _ _ _ _ _ _ _
            intro v65
            intro v66
            refine end_all (xs := [_, _, _, _, _, _, _]) ⟨rfl, rfl, rfl, rfl, rfl, rfl, rfl, trivial⟩ ?_
            rintro w5 hR1 ⟨⟨-, hOne⟩, hApp⟩
            refine ⟨?_⟩
            obtain ⟨wm_w5, hRm, hP_w5⟩ := hR1
            have hG_w5 : Grew W4 wm_w5 := (Grew.drew _).trans hRm
            clear hRm
            simp only [Act.put, List.setIfInBounds_toArray, List.set_cons_succ, List.set_cons_zero, dropN, putEach]
            obtain ⟨hro5, hat5⟩ := hApp
            obtain ⟨A6, c6, hv6, hc6⟩ := hro5.slice
            subst hv6
            have hu5 : Upd (fun k => (Value.slice A3 KN c3).ownBlock = some k) W4 w5 := (Upd.of_grew hG_w5).grown hP_w5 fun k hk => .inl hk
            have hI6 := HI4.out.app (x := ⟨⟨f0, (F : Int) + (KN : Int), f2, f3, f4⟩, false, 0, false⟩) hu5 (by rw [← HKK.out]; exact hro5)
            have hcl5 := HI4.out.cells.upd hu5 HI4.out.ne
            have q0 := hcl5.at_ 0
            have ff := hcl5.fz 0
            simp only [List.getElem?_cons_zero] at q0
            have hur6 : Upd (sndS g (.slice A3 KN c3)) wr (w5.setCell ⟨g, 0, none⟩ (.slice A6 (KN + 1) c6)) :=
              Upd.set (S := sndS g (.slice A3 KN c3)) (p := ⟨g, 0, none⟩) ((Upd.of_grew HGW4.out).trans (hu5.mono fun i _ h => .inr h)) (.inl (.inl rfl)) _
            have hR6 := R_upd_typed (d := k30) rfl HRR.out hur6 HII.out.typed
            have hur7 := HUR.out.then_ hur6 (fun i hi hs => by
              rcases hs with rfl | hs
              · exact .inl rfl
              · rcases HAT.out with h | ⟨k, h, h2⟩
                · exact .inr (by rw [← h]; exact hs)
                · rw [h] at hs
                  obtain rfl := Option.some.inj hs
                  omega)
            have hat7 : (Value.slice A6 (KN + 1) c6).ownBlock = (Value.slice A l.length cc).ownBlock ∨ ∃ k, (Value.slice A6 (KN + 1) c6).ownBlock = some k ∧ w.heap.size ≤ k := by
              rcases hat5 with h | ⟨k, h, h2⟩
              · rw [h]; exact HAT.out
              · exact .inr ⟨k, h, Nat.le_trans (Nat.le_trans HUR.out.size HGW4.out.size) h2⟩
            have HI6 := Lib.hid hI6
            have HR6 := Lib.hid hR6
            have HU7 := Lib.hid hur7
            have HA7 := Lib.hid hat7
            clear hI6 hR6 hur7 hat7 hur6 hu5 hcl5 hat5 hro5 hP_w5 hG_w5 hOne hlr0 hbase4
            go_wp2_with fail
            go_roundw
            case rel => exact ⟨pre ++ [⟨f0, f1, f2, f3, f4⟩], suf, _, by simp, HP.out, by rw [HX.out, ← List.append_assoc]; exact HI6.out, HR6.out, HU7.out, HA7.out⟩
            case measure => simp [intOf]; omega
end Go.Proofs.Yteaefambkagpbaa.F

-- LnkQ
namespace Go.Proofs.Yteaefambkagpbaa.F
open Go Go.RowKit Go.Proofs.YteaefambkagpbaaW.PrintWords Go.Proofs.YteaefambkagpbaaW.PrintLast Go.Proofs.YteaefambkagpbaaW.PrintMore Go.Proofs.YteaefambkagpbaaM Go.Proofs.YteaefambkagpbaaR
attribute [local go_sem] max2_int min2_int max_two min_two
set_option linter.unusedSimpArgs false
set_option linter.unusedVariables false
set_option maxRecDepth 100000
theorem undef_ne (b : Bool) : ¬ (undef = Value.bool b) := by intro h; cases h
theorem undef_ne' (b : Bool) : ¬ (Value.bool b = undef) := by intro h; cases h
attribute [local simp] undef_ne undef_ne'
def skipX (now : Int) (x : S86) : Bool := x.f3 || (x.f1 && decide (now - x.f2 < 4))
def dueX (now : Int) (x : S86) : S86 := if skipX now x then x else ⟨x.f0, true, now, x.f3⟩
def dueT (now : Int) (l : List S86) (i : Nat) : List S86 := (l.take i).map (dueX now) ++ l.drop i
def dueO (now : Int) (l : List S86) (i : Nat) : List S30 := ((l.take i).filter fun x => !skipX now x).map (·.f0)
theorem dueT_len (now : Int) (l : List S86) (i : Nat) : (dueT now l i).length = l.length := by
  unfold dueT; rw [List.length_append, List.length_map, List.length_take, List.length_drop]; omega
theorem dueT_at (now : Int) (l : List S86) (i : Nat) (x : S86) (h : l[i]? = some x) : (dueT now l i)[i]? = some x := by
  have hi := (List.getElem?_eq_some_iff.1 h).1
  unfold dueT
  rw [List.getElem?_append_right (by rw [List.length_map, List.length_take]; omega), List.length_map, List.length_take, Nat.min_eq_left (by omega), Nat.sub_self, List.getElem?_drop, Nat.add_zero, h]
theorem dueT_succ (now : Int) (l : List S86) (i : Nat) (x : S86) (h : l[i]? = some x) : dueT now l (i + 1) = (dueT now l i).set i (dueX now x) := by
  have hi := (List.getElem?_eq_some_iff.1 h).1
  have hl : ((l.take i).map (dueX now)).length = i := by rw [List.length_map, List.length_take]; omega
  unfold dueT
  rw [List.set_append_right _ _ (by omega), hl, Nat.sub_self, List.take_add_one, h]
  have : l.drop i = x :: l.drop (i + 1) := by
    obtain ⟨hi, he⟩ := List.getElem?_eq_some_iff.1 h
    rw [← he]; exact List.drop_eq_getElem_cons hi
  rw [this]
  simp
theorem dueT_same (now : Int) (l : List S86) (i : Nat) (x : S86) (h : l[i]? = some x) (hs : skipX now x = true) : dueT now l (i + 1) = dueT now l i := by
  rw [dueT_succ now l i x h]
  have e : dueX now x = x := by unfold dueX; rw [hs, if_pos rfl]
  rw [e]
  apply List.ext_getElem?
  intro j
  by_cases hj : i = j
  · subst hj
    rw [List.getElem?_set_self (by rw [dueT_len]; exact (List.getElem?_eq_some_iff.1 h).1), dueT_at now l i x h]
  · rw [List.getElem?_set_ne hj]
theorem dueO_skip (now : Int) (l : List S86) (i : Nat) (x : S86) (h : l[i]? = some x) (hs : skipX now x = true) : dueO now l (i + 1) = dueO now l i := by
  unfold dueO
  rw [List.take_add_one, h]
  simp [hs]
theorem dueO_take (now : Int) (l : List S86) (i : Nat) (x : S86) (h : l[i]? = some x) (hs : skipX now x = false) : dueO now l (i + 1) = dueO now l i ++ [x.f0] := by
  unfold dueO
  rw [List.take_add_one, h]
  simp [hs]
theorem dueO_len (now : Int) (l : List S86) (i : Nat) : (dueO now l i).length ≤ i := by
  unfold dueO
  rw [List.length_map]
  exact Nat.le_trans (List.length_filter_le _ _) (by rw [List.length_take]; omega)
/-- the cells of packets -/
def pks (l : List S30) : List Value := l.flatMap pkc
theorem pks_snoc (l : List S30) (x : S30) : pks (l ++ [x]) = pks l ++ pkc x := by simp [pks]
theorem infoPk : (Try.prog.info? 30).map (fun i => (i.zero, i.size, i.bytes)) = some (some (.agg #[.bool false, .int .i64 0, .bool false, .string ⟨#[]⟩, .int .i64 0]), 5, 48) := by kernel_rfl
theorem SndM.ne_own {B g b n : Nat} {v v2 : Value} {l : List S86} {f nw : Int} {w : World} {xs : List Value} (h : SndM B g v l f nw w) (ho : w.ownsRow b 30 5 v2 n xs) : ∀ k, sndS g v k → v2.ownBlock ≠ some k := by
  intro k hk he
  obtain ⟨cur, hc⟩ := own_cells ho he
  exact h.typed k cur hc hk
theorem sdc_set (l : List S86) (i : Nat) (x : S86) (b : Bool) (t : Int) (h : l[i]? = some x) : ((sdc l).set (i * 8 + 5) (.bool b)).set (i * 8 + 6) (.int .i64 t) = sdc (l.set i ⟨x.f0, b, t, x.f3⟩) := by
  induction l generalizing i with
  | nil => simp at h
  | cons y l ih =>
    have e : sdc (y :: l) = sdc1 y ++ sdc l := by simp [sdc]
    cases i with
    | zero =>
      obtain rfl : y = x := by simpa using h
      simp [sdc, sdc1]
    | succ i =>
      have := ih i (by simpa using h)
      rw [e, show (i + 1) * 8 + 5 = 8 + (i * 8 + 5) from by omega, show (i + 1) * 8 + 6 = 8 + (i * 8 + 6) from by omega]
      have e8 : (sdc1 y).length = 8 := rfl
      rw [List.set_append_right _ _ (by omega), e8, Nat.add_sub_cancel_left, List.set_append_right _ _ (by omega), e8, Nat.add_sub_cancel_left, this]
      simp [sdc]
def DueD (B g : Nat) (v : Value) (l : List S86) (f n : Int) (out : List S30) (w : World) (e : Ending) (w' : World) : Prop :=
  ∃ vo, e = .returned vo ∧ w'.ownsRow w.heap.size 30 5 vo out.length (pks out) ∧ SndM B g v l f n w' ∧ Upd (sndS g v) w w'
theorem due_nil_c (w : World) (n : Int) : Calls Try.prog 24 #[.pointer none, .int .i64 n] w (Tells w (Is (.slice none 0 0))) := by
  go_enter Try.func24, Try.ntmps24
  go_wp2_with fail
  go_ret
  exact ⟨_, rfl, rfl, Grew.refl w⟩
set_option maxHeartbeats 8000000 in
theorem due_c (w : World) (B g : Nat) (v : Value) (l : List S86) (f n0 n N : Int) (hS : SndM B g v l f n0 w) (hN : N = max n0 n) (hN0 : 0 ≤ N) (hN1 : N ≤ 1099511627776) (hT : ∀ x ∈ l, 0 ≤ x.f2 ∧ x.f2 ≤ 1099511627776) (hl : l.length ≤ 100000) :
    Calls Try.prog 24 #[.pointer (some ⟨g, 0, none⟩), .int .i64 n] w (DueD B g v (dueT N l 8) f N (dueO N l 8) w) := by
  obtain ⟨k, hk⟩ : ∃ k, k = l.length := ⟨_, rfl⟩
  obtain ⟨M, hM⟩ : ∃ M, M = min 8 k := ⟨_, rfl⟩
  have HM := Lib.hid hM
  have HK := Lib.hid hk
  have HT := Lib.hid hT
  obtain ⟨A, cc, rfl, hcc⟩ := hS.row.slice
  have q0 := hS.cells.at_ 0
  have q2 := hS.cells.at_ 2
  have f2 := hS.cells.fz 2
  simp only [List.getElem?_cons_zero, List.getElem?_cons_succ] at q0 q2
  have hmx : (if n0 < n then n else n0) = N := by rw [hN]; split <;> omega
  have hmx' : (if n < n0 then n0 else n) = N := by rw [hN]; split <;> omega
  have hmn : (if (8 : Int) < (k : Int) then (8 : Int) else (k : Int)) = (M : Int) := by rw [hM]; split <;> omega
  have hmn' : (if (k : Int) < 8 then (k : Int) else (8 : Int)) = (M : Int) := by rw [hM]; split <;> omega
  have hI1 : SndM B g (.slice A l.length cc) (dueT N l 0) f N (w.setCell ⟨g, 2, none⟩ (.int .i64 N)) := by
    have e : dueT N l 0 = l := by simp [dueT]
    rw [e]
    have hset : Upd (fun k => k = g) w (w.setCell ⟨g, 2, none⟩ (.int .i64 N)) := Upd.set (S := fun k => k = g) (p := ⟨g, 2, none⟩) (Upd.refl _ _) (.inl rfl) _
    exact ⟨by have := hS.cells.set 2 (.int .i64 N); simpa using this, hS.row.upd hset fun k hk e => hS.ne (by rw [hk, e]), hS.hg⟩
  have hU1 : Upd (sndS g (.slice A l.length cc)) w (w.setCell ⟨g, 2, none⟩ (.int .i64 N)) := Upd.set (S := sndS g (.slice A l.length cc)) (p := ⟨g, 2, none⟩) (Upd.refl _ _) (.inl (.inl rfl)) _
  have HI1 := Lib.hid hI1
  have HU1 := Lib.hid hU1
  rw [← hk] at HI1 HU1 q0 hl hcc ⊢
  have hM8 : M ≤ 8 := by omega
  have hMk : M ≤ k := by omega
  have hres : dueT N l 8 = dueT N l M ∧ dueO N l 8 = dueO N l M := by
    rcases Nat.lt_or_ge k 8 with h | h
    · have : M = k := by omega
      unfold dueT dueO
      rw [this, List.take_of_length_le (by omega), List.take_of_length_le (by omega), List.drop_of_length_le (by omega), List.drop_of_length_le (by omega)]
      exact ⟨rfl, rfl⟩
    · have : M = 8 := by omega
      rw [this]; exact ⟨rfl, rfl⟩
  rw [hres.1, hres.2]
  clear hS hI1 hU1 hk hM hN hT hres
  go_enter Try.func24, Try.ntmps24
  go_wp2_with fail
  clear hmx hmx' hmn hmn' q0 q2 f2
  go_loopw [5, 26] (fun ov iv wr => ∃ (i : Nat), iv = .int .i64 (i : Int) ∧ i ≤ M ∧ SndM B g (.slice A k cc) (dueT N l i) f N wr ∧ wr.ownsRow w.heap.size 30 5 ov (dueO N l i).length (pks (dueO N l i)) ∧ Upd (sndS g (.slice A k cc)) w wr) (fun _ iv _ => M - (intOf iv).toNat)
  case atStart => exact ⟨0, rfl, Nat.zero_le _, HI1.out, World.ownsRow_nil _ _ _ _, HU1.out⟩
  case round =>
    obtain ⟨i, rfl, hi, hI, ho, hu⟩ := hrel
    rcases Nat.lt_or_ge i M with hlt | hge
    · have e1 : decide ((i : Int) < (M : Int)) = true := decide_eq_true (by omega)
      have e2 : decide (i < M) = true := decide_eq_true hlt
      have i1 : (i : Int) < (k : Int) := by omega
      have i2 : i < k := by omega
      obtain ⟨x, hx⟩ : ∃ x, l[i]? = some x := ⟨_, List.getElem?_eq_getElem (by rw [← HK.out]; exact i2)⟩
      have hxT := HT.out x (List.mem_of_getElem? hx)
      have hat := dueT_at N l i x hx
      obtain ⟨g1, o, cap, hv, hcap, hB1, hg1, hcell, hfz⟩ := hI.row.at_ (by rw [dueT_len, ← HK.out]; omega)
      rw [dueT_len, ← HK.out] at hv hcell
      injection hv with hv1 hv2 hv3
      subst hv1 hv3
      have cell : ∀ j, j < 8 → wr.cell? ⟨g1, o + i * 8 + j, none⟩ = (sdc1 x)[j]? := fun j hj => by
        have := hcell (i * 8 + j) (by omega)
        rw [sdc_at _ i x hat j hj, ← Nat.add_assoc] at this
        exact this
      have k7 := cell 7 (by omega)
      have k5 := cell 5 (by omega)
      have k6 := cell 6 (by omega)
      have n0' := hI.cells.at_ 0
      have n2' := hI.cells.at_ 2
      simp only [sdc1, List.getElem?_cons_zero, List.getElem?_cons_succ] at k7 k5 k6 n0' n2'
      have CA := Lib.hid (fun wx (h : Grew wr wx) => pw_cell_below h k7)
      have CS := Lib.hid (fun wx (h : Grew wr wx) => pw_cell_below h k5)
      have CT := Lib.hid (fun wx (h : Grew wr wx) => pw_cell_below h k6)
      have CN := Lib.hid (fun wx (h : Grew wr wx) => pw_cell_below h n2')
      have HC := Lib.hid hcell
      have HCELL := Lib.hid cell
      have HF := Lib.hid hfz
      have HI := Lib.hid hI
      have HO := Lib.hid ho
      have HU := Lib.hid hu
      have HX := Lib.hid hx
      have HAT := Lib.hid hat
      obtain ⟨⟨f0, f1, f2, f3, f4⟩, s, t, c⟩ := x
      simp only at CA CS CT hxT
      obtain ⟨hx0, hx1⟩ := hxT
      have hlen := Lib.hid (dueO_len N l i)
      clear hI ho hu hx hat k7 k5 k6 n2' cell hcell hfz
      cases c with
      | true =>
        have hsk : skipX N ⟨⟨f0, f1, f2, f3, f4⟩, s, t, true⟩ = true := rfl
        have HSK := Lib.hid hsk
        clear hsk
        go_wp2_with fail
        apply region_grew [Is _, Is _, Is _, Is _, Is _, Is undef, Is undef, Is undef, Is undef, Is undef, Is undef, Is undef, Is undef, Is undef, Is undef, Is undef, Is undef, Is undef] [([(7, none)], none), ([(35, some 0)], none), ([(36, some 1)], none), ([(37, some 2)], none), ([(38, some 3)], none), ([(7, none), (39, some 4)], some (39, false)), ([(40, some 5), (39, some 4)], some (39, false)), ([(41, some 6), (39, some 4)], some (39, false)), ([(42, some 7), (39, some 4)], some (39, false)), ([(43, some 8), (39, some 4)], some (39, false)), ([(0, none), (44, some 9)], some (44, true)), ([(45, some 10), (44, some 9)], some (44, true)), ([(46, some 11), (44, some 9)], some (44, true)), ([(47, some 12), (44, some 9)], some (44, true)), ([(7, none), (44, some 9)], some (44, true)), ([(49, some 14), (44, some 9)], some (44, true)), ([(50, some 15), (44, some 9)], some (44, true)), ([(51, some 16), (44, some 9)], some (44, true))] [(35, 0), (36, 1), (37, 2), (38, 3), (39, 4), (40, 5), (41, 6), (42, 7), (43, 8), (44, 9), (45, 10), (46, 11), (47, 12), (48, 13), (49, 14), (50, 15), (51, 16), (52, 17)] rfl (by kernel_rfl) (by kernel_rfl) (show Stable Grew _ from ⟨Is.stable _, Is.stable _, Is.stable _, Is.stable _, Is.stable _, Is.stable _, Is.stable _, Is.stable _, Is.stable _, Is.stable _, Is.stable _, Is.stable _, Is.stable _, Is.stable _, Is.stable _, Is.stable _, Is.stable _, Is.stable _, trivial⟩)
        · show OpsHold _ _ _ _ _ _ _ _ _
          refine ⟨fun a_ wx hR hD K hK => ?_, ?_⟩
          · have hG : Grew wr wx := (Grew.drew _).trans hR
            simp [Deps, Dep, at_, Is] at hD
            go_simp
            exact hK _ _ (Grew.refl _) rfl
          refine ⟨fun a_ wx hR hD K hK => ?_, ?_⟩
          · have hG : Grew wr wx := (Grew.drew _).trans hR
            simp [Deps, Dep, at_, Is] at hD
            go_simp
            exact hK _ _ (Grew.refl _) rfl
          refine ⟨fun a_ wx hR hD K hK => ?_, ?_⟩
          · have hG : Grew wr wx := (Grew.drew _).trans hR
            simp [Deps, Dep, at_, Is] at hD
            go_simp
            exact hK _ _ (Grew.refl _) rfl
          refine ⟨fun a_ wx hR hD K hK => ?_, ?_⟩
          · have hG : Grew wr wx := (Grew.drew _).trans hR
            simp [Deps, Dep, at_, Is] at hD
            have e_ := CA.out wx hG
            go_simp
            exact hK _ _ (Grew.refl _) rfl
          refine ⟨fun a_ wx hR hD K hK => ?_, ?_⟩
          · have hG : Grew wr wx := (Grew.drew _).trans hR
            simp [Deps, Dep, at_, Is] at hD
            go_simp
            exact hK _ _ (Grew.refl _) rfl
          refine ⟨fun a_ wx hR hD => ⟨fun hgd K hK => ?_, fun hgd => ?_⟩, ?_⟩
          · have hG : Grew wr wx := (Grew.drew _).trans hR
            exfalso
            simp [Deps, Dep, at_, Is] at hD
            simp_all
          · exact rfl
          refine ⟨fun a_ wx hR hD => ⟨fun hgd K hK => ?_, fun hgd => ?_⟩, ?_⟩
          · have hG : Grew wr wx := (Grew.drew _).trans hR
            exfalso
            simp [Deps, Dep, at_, Is] at hD
            simp_all
          · exact rfl
          refine ⟨fun a_ wx hR hD => ⟨fun hgd K hK => ?_, fun hgd => ?_⟩, ?_⟩
          · have hG : Grew wr wx := (Grew.drew _).trans hR
            exfalso
            simp [Deps, Dep, at_, Is] at hD
            simp_all
          · exact rfl
          refine ⟨fun a_ wx hR hD => ⟨fun hgd K hK => ?_, fun hgd => ?_⟩, ?_⟩
          · have hG : Grew wr wx := (Grew.drew _).trans hR
            exfalso
            simp [Deps, Dep, at_, Is] at hD
            simp_all
          · exact rfl
          refine ⟨fun a_ wx hR hD => ⟨fun hgd K hK => ?_, fun hgd => ?_⟩, ?_⟩
          · have hG : Grew wr wx := (Grew.drew _).trans hR
            exfalso
            simp [Deps, Dep, at_, Is] at hD
            simp_all
          · exact rfl
          refine ⟨fun a_ wx hR hD => ⟨fun hgd K hK => ?_, fun hgd => ?_⟩, ?_⟩
          · have hG : Grew wr wx := (Grew.drew _).trans hR
            exfalso
            simp [Deps, Dep, at_, Is] at hD
            simp_all
          · exact rfl
          refine ⟨fun a_ wx hR hD => ⟨fun hgd K hK => ?_, fun hgd => ?_⟩, ?_⟩
          · have hG : Grew wr wx := (Grew.drew _).trans hR
            exfalso
            simp [Deps, Dep, at_, Is] at hD
            simp_all
          · exact rfl
          refine ⟨fun a_ wx hR hD => ⟨fun hgd K hK => ?_, fun hgd => ?_⟩, ?_⟩
          · have hG : Grew wr wx := (Grew.drew _).trans hR
            exfalso
            simp [Deps, Dep, at_, Is] at hD
            simp_all
          · exact rfl
          refine ⟨fun a_ wx hR hD => ⟨fun hgd K hK => ?_, fun hgd => ?_⟩, ?_⟩
          · have hG : Grew wr wx := (Grew.drew _).trans hR
            exfalso
            simp [Deps, Dep, at_, Is] at hD
            simp_all
          · exact rfl
          refine ⟨fun a_ wx hR hD => ⟨fun hgd K hK => ?_, fun hgd => ?_⟩, ?_⟩
          · have hG : Grew wr wx := (Grew.drew _).trans hR
            exfalso
            simp [Deps, Dep, at_, Is] at hD
            simp_all
          · exact rfl
          refine ⟨fun a_ wx hR hD => ⟨fun hgd K hK => ?_, fun hgd => ?_⟩, ?_⟩
          · have hG : Grew wr wx := (Grew.drew _).trans hR
            exfalso
            simp [Deps, Dep, at_, Is] at hD
            simp_all
          · exact rfl
          refine ⟨fun a_ wx hR hD => ⟨fun hgd K hK => ?_, fun hgd => ?_⟩, ?_⟩
          · have hG : Grew wr wx := (Grew.drew _).trans hR
            exfalso
            simp [Deps, Dep, at_, Is] at hD
            simp_all
          · exact rfl
          refine ⟨fun a_ wx hR hD => ⟨fun hgd K hK => ?_, fun hgd => ?_⟩, ?_⟩
          · have hG : Grew wr wx := (Grew.drew _).trans hR
            exfalso
            simp [Deps, Dep, at_, Is] at hD
            simp_all
          · exact rfl
          trivial
        · show EndHold _ _ _ _ _ _ _
          refine end_all (xs := [_, _, _, _, _, _, _, _, _, _, _, _, _, _, _, _, _, _]) ⟨rfl, rfl, rfl, rfl, rfl, rfl, rfl, rfl, rfl, rfl, rfl, rfl, rfl, rfl, rfl, rfl, rfl, rfl, trivial⟩ ?_
          rintro w5 hR1 -
          refine ⟨?_⟩
          have hG_w5 : Grew wr w5 := (Grew.drew _).trans hR1
          clear hR1
          simp only [Act.put, List.setIfInBounds_toArray, List.set_cons_succ, List.set_cons_zero, dropN, putEach]
          go_wp2_with fail
          go_roundw
          case rel => exact ⟨i + 1, by go_num, by omega, by rw [dueT_same N l i _ HX.out HSK.out]; exact HI.out.grew hG_w5, by rw [dueO_skip N l i _ HX.out HSK.out]; exact pw_own_below HO.out hG_w5, HU.out.trans (Upd.of_grew hG_w5)⟩
          case measure => simp [intOf]; omega
      | false =>
        cases s with
        | false =>
          have hsk : skipX N ⟨⟨f0, f1, f2, f3, f4⟩, false, t, false⟩ = false := rfl
          have HSK := Lib.hid hsk
          clear hsk
          go_wp2_with fail
          apply region_grew [Is _, Is _, Is _, Is _, Is _, Is _, Is _, Is _, Is _, Is _, Is undef, Is undef, Is undef, Is undef, Is undef, Is undef, Is undef, Is undef] [([(7, none)], none), ([(35, some 0)], none), ([(36, some 1)], none), ([(37, some 2)], none), ([(38, some 3)], none), ([(7, none), (39, some 4)], some (39, false)), ([(40, some 5), (39, some 4)], some (39, false)), ([(41, some 6), (39, some 4)], some (39, false)), ([(42, some 7), (39, some 4)], some (39, false)), ([(43, some 8), (39, some 4)], some (39, false)), ([(0, none), (44, some 9)], some (44, true)), ([(45, some 10), (44, some 9)], some (44, true)), ([(46, some 11), (44, some 9)], some (44, true)), ([(47, some 12), (44, some 9)], some (44, true)), ([(7, none), (44, some 9)], some (44, true)), ([(49, some 14), (44, some 9)], some (44, true)), ([(50, some 15), (44, some 9)], some (44, true)), ([(51, some 16), (44, some 9)], some (44, true))] [(35, 0), (36, 1), (37, 2), (38, 3), (39, 4), (40, 5), (41, 6), (42, 7), (43, 8), (44, 9), (45, 10), (46, 11), (47, 12), (48, 13), (49, 14), (50, 15), (51, 16), (52, 17)] rfl (by kernel_rfl) (by kernel_rfl) (show Stable Grew _ from ⟨Is.stable _, Is.stable _, Is.stable _, Is.stable _, Is.stable _, Is.stable _, Is.stable _, Is.stable _, Is.stable _, Is.stable _, Is.stable _, Is.stable _, Is.stable _, Is.stable _, Is.stable _, Is.stable _, Is.stable _, Is.stable _, trivial⟩)
          · show OpsHold _ _ _ _ _ _ _ _ _
            refine ⟨fun a_ wx hR hD K hK => ?_, ?_⟩
            · have hG : Grew wr wx := (Grew.drew _).trans hR
              simp [Deps, Dep, at_, Is] at hD
              go_simp
              exact hK _ _ (Grew.refl _) rfl
            refine ⟨fun a_ wx hR hD K hK => ?_, ?_⟩
            · have hG : Grew wr wx := (Grew.drew _).trans hR
              simp [Deps, Dep, at_, Is] at hD
              go_simp
              exact hK _ _ (Grew.refl _) rfl
            refine ⟨fun a_ wx hR hD K hK => ?_, ?_⟩
            · have hG : Grew wr wx := (Grew.drew _).trans hR
              simp [Deps, Dep, at_, Is] at hD
              go_simp
              exact hK _ _ (Grew.refl _) rfl
            refine ⟨fun a_ wx hR hD K hK => ?_, ?_⟩
            · have hG : Grew wr wx := (Grew.drew _).trans hR
              simp [Deps, Dep, at_, Is] at hD
              have e_ := CA.out wx hG
              go_simp
              exact hK _ _ (Grew.refl _) rfl
            refine ⟨fun a_ wx hR hD K hK => ?_, ?_⟩
            · have hG : Grew wr wx := (Grew.drew _).trans hR
              simp [Deps, Dep, at_, Is] at hD
              go_simp
              exact hK _ _ (Grew.refl _) rfl
            refine ⟨fun a_ wx hR hD => ⟨fun hgd K hK => ?_, fun hgd => ?_⟩, ?_⟩
            · have hG : Grew wr wx := (Grew.drew _).trans hR
              clear hgd
              simp [Deps, Dep, at_, Is] at hD
              obtain ⟨hd0, hd1⟩ := hD
              go_simp
              exact hK _ _ (Grew.refl _) rfl
            · have hG : Grew wr wx := (Grew.drew _).trans hR
              exfalso
              simp [Deps, Dep, at_, Is] at hD
              simp_all
            refine ⟨fun a_ wx hR hD => ⟨fun hgd K hK => ?_, fun hgd => ?_⟩, ?_⟩
            · have hG : Grew wr wx := (Grew.drew _).trans hR
              clear hgd
              simp [Deps, Dep, at_, Is] at hD
              obtain ⟨hd0, hd1⟩ := hD
              go_simp
              exact hK _ _ (Grew.refl _) rfl
            · have hG : Grew wr wx := (Grew.drew _).trans hR
              exfalso
              simp [Deps, Dep, at_, Is] at hD
              simp_all
            refine ⟨fun a_ wx hR hD => ⟨fun hgd K hK => ?_, fun hgd => ?_⟩, ?_⟩
            · have hG : Grew wr wx := (Grew.drew _).trans hR
              clear hgd
              simp [Deps, Dep, at_, Is] at hD
              obtain ⟨hd0, hd1⟩ := hD
              go_simp
              exact hK _ _ (Grew.refl _) rfl
            · have hG : Grew wr wx := (Grew.drew _).trans hR
              exfalso
              simp [Deps, Dep, at_, Is] at hD
              simp_all
            refine ⟨fun a_ wx hR hD => ⟨fun hgd K hK => ?_, fun hgd => ?_⟩, ?_⟩
            · have hG : Grew wr wx := (Grew.drew _).trans hR
              clear hgd
              simp [Deps, Dep, at_, Is] at hD
              obtain ⟨hd0, hd1⟩ := hD
              have e_ := CS.out wx hG
              go_simp
              exact hK _ _ (Grew.refl _) rfl
            · have hG : Grew wr wx := (Grew.drew _).trans hR
              exfalso
              simp [Deps, Dep, at_, Is] at hD
              simp_all
            refine ⟨fun a_ wx hR hD => ⟨fun hgd K hK => ?_, fun hgd => ?_⟩, ?_⟩
            · have hG : Grew wr wx := (Grew.drew _).trans hR
              clear hgd
              simp [Deps, Dep, at_, Is] at hD
              obtain ⟨hd0, hd1⟩ := hD
              go_simp
              exact hK _ _ (Grew.refl _) rfl
            · have hG : Grew wr wx := (Grew.drew _).trans hR
              exfalso
              simp [Deps, Dep, at_, Is] at hD
              simp_all
            refine ⟨fun a_ wx hR hD => ⟨fun hgd K hK => ?_, fun hgd => ?_⟩, ?_⟩
            · have hG : Grew wr wx := (Grew.drew _).trans hR
              exfalso
              simp [Deps, Dep, at_, Is] at hD
              simp_all
            · exact rfl
            refine ⟨fun a_ wx hR hD => ⟨fun hgd K hK => ?_, fun hgd => ?_⟩, ?_⟩
            · have hG : Grew wr wx := (Grew.drew _).trans hR
              exfalso
              simp [Deps, Dep, at_, Is] at hD
              simp_all
            · exact rfl
            refine ⟨fun a_ wx hR hD => ⟨fun hgd K hK => ?_, fun hgd => ?_⟩, ?_⟩
            · have hG : Grew wr wx := (Grew.drew _).trans hR
              exfalso
              simp [Deps, Dep, at_, Is] at hD
              simp_all
            · exact rfl
            refine ⟨fun a_ wx hR hD => ⟨fun hgd K hK => ?_, fun hgd => ?_⟩, ?_⟩
            · have hG : Grew wr wx := (Grew.drew _).trans hR
              exfalso
              simp [Deps, Dep, at_, Is] at hD
              simp_all
            · exact rfl
            refine ⟨fun a_ wx hR hD => ⟨fun hgd K hK => ?_, fun hgd => ?_⟩, ?_⟩
            · have hG : Grew wr wx := (Grew.drew _).trans hR
              exfalso
              simp [Deps, Dep, at_, Is] at hD
              simp_all
            · exact rfl
            refine ⟨fun a_ wx hR hD => ⟨fun hgd K hK => ?_, fun hgd => ?_⟩, ?_⟩
            · have hG : Grew wr wx := (Grew.drew _).trans hR
              exfalso
              simp [Deps, Dep, at_, Is] at hD
              simp_all
            · exact rfl
            refine ⟨fun a_ wx hR hD => ⟨fun hgd K hK => ?_, fun hgd => ?_⟩, ?_⟩
            · have hG : Grew wr wx := (Grew.drew _).trans hR
              exfalso
              simp [Deps, Dep, at_, Is] at hD
              simp_all
            · exact rfl
            refine ⟨fun a_ wx hR hD => ⟨fun hgd K hK => ?_, fun hgd => ?_⟩, ?_⟩
            · have hG : Grew wr wx := (Grew.drew _).trans hR
              exfalso
              simp [Deps, Dep, at_, Is] at hD
              simp_all
            · exact rfl
            trivial
          · show EndHold _ _ _ _ _ _ _
            refine end_all (xs := [_, _, _, _, _, _, _, _, _, _, _, _, _, _, _, _, _, _]) ⟨rfl, rfl, rfl, rfl, rfl, rfl, rfl, rfl, rfl, rfl, rfl, rfl, rfl, rfl, rfl, rfl, rfl, rfl, trivial⟩ ?_
            rintro w5 hR1 -
            refine ⟨?_⟩
            have hG_w5 : Grew wr w5 := (Grew.drew _).trans hR1
            clear hR1
            simp only [Act.put, List.setIfInBounds_toArray, List.set_cons_succ, List.set_cons_zero, dropN, putEach]
            have hI5 := HI.out.grew hG_w5
            have ho5 := pw_own_below HO.out hG_w5
            have hu5 := HU.out.trans (Upd.of_grew (S := sndS g (.slice (some ⟨g1, o, none⟩) k cc)) hG_w5)
            have c5 := pw_cell_below hG_w5 (HCELL.out 5 (by omega))
            have c6 := pw_cell_below hG_w5 (HCELL.out 6 (by omega))
            have c0 := pw_cell_below hG_w5 (HCELL.out 0 (by omega))
            have c1 := pw_cell_below hG_w5 (HCELL.out 1 (by omega))
            have c2 := pw_cell_below hG_w5 (HCELL.out 2 (by omega))
            have c3 := pw_cell_below hG_w5 (HCELL.out 3 (by omega))
            have c4 := pw_cell_below hG_w5 (HCELL.out 4 (by omega))
            have c9 := CN.out w5 hG_w5
            simp only [sdc1, List.getElem?_cons_zero, List.getElem?_cons_succ, Nat.add_zero] at c5 c6 c0 c1 c2 c3 c4
            have z5 : w5.frozen? ⟨g1, o + i * 8 + 5, none⟩ = false := (hG_w5.frozen (p := ⟨g1, o + i * 8 + 5, none⟩) hg1).trans (HF.out _)
            have z6 : w5.frozen? ⟨g1, o + i * 8 + 6, none⟩ = false := (hG_w5.frozen (p := ⟨g1, o + i * 8 + 6, none⟩) hg1).trans (HF.out _)
            obtain ⟨W6, hW6⟩ : ∃ W6, W6 = (w5.setCell ⟨g1, o + i * 8 + 5, none⟩ (.bool true)).setCell ⟨g1, o + i * 8 + 6, none⟩ (.int .i64 N) := ⟨_, rfl⟩
            have hs6 : Upd (fun j => j = g1) w5 W6 := by
              rw [hW6]
              exact Upd.set (S := fun j => j = g1) (p := ⟨g1, o + i * 8 + 6, none⟩) (Upd.set (S := fun j => j = g1) (p := ⟨g1, o + i * 8 + 5, none⟩) (Upd.refl _ _) (.inl rfl) _) (.inl rfl) _
            have hrow6 : RowO W6 B 86 8 (.slice (some ⟨g1, o, none⟩) k cc) k (sdc ((dueT N l i).set i ⟨⟨f0, f1, f2, f3, f4⟩, true, N, false⟩)) := by
              have h := hI5.row
              rw [dueT_len, ← HK.out] at h
              have h := (h.set rfl (i * 8 + 5) (by omega) (.bool true)).set rfl (i * 8 + 6) (by omega) (.int .i64 N)
              rw [sdc_set _ i _ true N HAT.out, ← Nat.add_assoc, ← Nat.add_assoc, ← hW6] at h
              exact h
            have hne1 := hI5.ne
            have hI6 : SndM B g (.slice (some ⟨g1, o, none⟩) k cc) (dueT N l (i + 1)) f N W6 := by
              refine ⟨hI5.cells.upd hs6 (fun e => hne1 (by rw [e]; rfl)), ?_, hI5.hg⟩
              rw [dueT_len, ← HK.out, dueT_succ N l i _ HX.out]
              have e : dueX N ⟨⟨f0, f1, f2, f3, f4⟩, false, t, false⟩ = ⟨⟨f0, f1, f2, f3, f4⟩, true, N, false⟩ := by unfold dueX; rw [HSK.out]; rfl
              rw [e]
              exact hrow6
            have hu6 := hu5.trans (hs6.mono fun j _ e => .inr (by rw [e]; rfl))
            have ho6 := hs6.own ho5 (fun j hj e => hI5.ne_own ho5 j (.inr (by rw [e]; rfl)) hj)
            obtain ⟨Ao, co, rfl⟩ := own_slice ho5
            have hz6 : W6.heap.size = w5.heap.size := by rw [hW6]; simp
            have hgr7 : Grew W6 (W6.alloc (.cells (pkc ⟨f0, f1, f2, f3, f4⟩).toArray 30)) := Grew.alloc _ _
            obtain ⟨v8, w8, hrun, hown8, hgr8, -⟩ := app_cells (P := Try.prog) (W6.alloc (.cells (pkc ⟨f0, f1, f2, f3, f4⟩).toArray 30)) w.heap.size 53 30 53 (.agg #[.bool false, .int .i64 0, .bool false, .string ⟨#[]⟩, .int .i64 0]) 5 48 Try.underlying53 infoPk rfl (by decide) (by decide) (.slice Ao (dueO N l i).length co) (dueO N l i).length (pks (dueO N l i)) W6.heap.size (pkc ⟨f0, f1, f2, f3, f4⟩) rfl (by intro u hu; simp [pkc] at hu; rcases hu with rfl | rfl | rfl | rfl | rfl <;> rfl) (pw_own_below ho6 hgr7) (Blk.new _ _ _) (Nat.le_trans hu6.size hgr7.size) (by have := hlen.out; omega)
            rw [hz6, hW6] at hrun
            have hI7 := hI6.grew hgr7
            have hI8 := hI7.far (Upd.of_grown hgr8) (fun j hj => hI7.ne_own (pw_own_below ho6 hgr7) j hj)
            have hu8 := (hu6.trans (Upd.of_grew (S := sndS g (.slice (some ⟨g1, o, none⟩) k cc)) hgr7)).grown hgr8 (fun j hj => .inr (own_base ho6 j hj))
            have HI8 := Lib.hid hI8
            have HU8 := Lib.hid hu8
            have HO8 := Lib.hid hown8
            have HRUN := Lib.hid hrun
            clear hI5 ho5 hu5 hs6 hrow6 hne1 hI6 hu6 ho6 hW6 hG_w5 hI7 hI8 hu8 hown8 hrun hgr8 hgr7 hz6
            go_wp2_with (at_builtin; refine wpList_app (by rfl) (.tmp 67) (.tmp 72) 53 (by rfl) (by rfl) (by rfl) HRUN.out ?_)
            go_roundw
            case rel => exact ⟨i + 1, by go_num, by omega, HI8.out, by rw [dueO_take N l i _ HX.out HSK.out, List.length_append, pks_snoc]; exact HO8.out, HU8.out⟩
            case measure => simp [intOf]; omega
        | true =>
          have hw : IntKind.i64.wrap (N - t) = N - t := IntWalk.i64_in _ (by omega)
          by_cases h4 : N - t < 4
          · have d4 : decide (N - t < 4) = true := decide_eq_true h4
            have hsk : skipX N ⟨⟨f0, f1, f2, f3, f4⟩, true, t, false⟩ = true := by unfold skipX; rw [d4]; rfl
            have HSK := Lib.hid hsk
            clear hsk h4
            go_wp2_with fail
            apply region_grew [Is _, Is _, Is _, Is _, Is _, Is _, Is _, Is _, Is _, Is _, Is _, Is _, Is _, Is _, Is _, Is _, Is _, Is _] [([(7, none)], none), ([(35, some 0)], none), ([(36, some 1)], none), ([(37, some 2)], none), ([(38, some 3)], none), ([(7, none), (39, some 4)], some (39, false)), ([(40, some 5), (39, some 4)], some (39, false)), ([(41, some 6), (39, some 4)], some (39, false)), ([(42, some 7), (39, some 4)], some (39, false)), ([(43, some 8), (39, some 4)], some (39, false)), ([(0, none), (44, some 9)], some (44, true)), ([(45, some 10), (44, some 9)], some (44, true)), ([(46, some 11), (44, some 9)], some (44, true)), ([(47, some 12), (44, some 9)], some (44, true)), ([(7, none), (44, some 9)], some (44, true)), ([(49, some 14), (44, some 9)], some (44, true)), ([(50, some 15), (44, some 9)], some (44, true)), ([(51, some 16), (44, some 9)], some (44, true))] [(35, 0), (36, 1), (37, 2), (38, 3), (39, 4), (40, 5), (41, 6), (42, 7), (43, 8), (44, 9), (45, 10), (46, 11), (47, 12), (48, 13), (49, 14), (50, 15), (51, 16), (52, 17)] rfl (by kernel_rfl) (by kernel_rfl) (show Stable Grew _ from ⟨Is.stable _, Is.stable _, Is.stable _, Is.stable _, Is.stable _, Is.stable _, Is.stable _, Is.stable _, Is.stable _, Is.stable _, Is.stable _, Is.stable _, Is.stable _, Is.stable _, Is.stable _, Is.stable _, Is.stable _, Is.stable _, trivial⟩)
            · show OpsHold _ _ _ _ _ _ _ _ _
              refine ⟨fun a_ wx hR hD K hK => ?_, ?_⟩
              · have hG : Grew wr wx := (Grew.drew _).trans hR
                simp [Deps, Dep, at_, Is] at hD
                go_simp
                exact hK _ _ (Grew.refl _) rfl
              refine ⟨fun a_ wx hR hD K hK => ?_, ?_⟩
              · have hG : Grew wr wx := (Grew.drew _).trans hR
                simp [Deps, Dep, at_, Is] at hD
                go_simp
                exact hK _ _ (Grew.refl _) rfl
              refine ⟨fun a_ wx hR hD K hK => ?_, ?_⟩
              · have hG : Grew wr wx := (Grew.drew _).trans hR
                simp [Deps, Dep, at_, Is] at hD
                go_simp
                exact hK _ _ (Grew.refl _) rfl
              refine ⟨fun a_ wx hR hD K hK => ?_, ?_⟩
              · have hG : Grew wr wx := (Grew.drew _).trans hR
                simp [Deps, Dep, at_, Is] at hD
                have e_ := CA.out wx hG
                go_simp
                exact hK _ _ (Grew.refl _) rfl
              refine ⟨fun a_ wx hR hD K hK => ?_, ?_⟩
              · have hG : Grew wr wx := (Grew.drew _).trans hR
                simp [Deps, Dep, at_, Is] at hD
                go_simp
                exact hK _ _ (Grew.refl _) rfl
              refine ⟨fun a_ wx hR hD => ⟨fun hgd K hK => ?_, fun hgd => ?_⟩, ?_⟩
              · have hG : Grew wr wx := (Grew.drew _).trans hR
                clear hgd
                simp [Deps, Dep, at_, Is] at hD
                obtain ⟨hd0, hd1⟩ := hD
                go_simp
                exact hK _ _ (Grew.refl _) rfl
              · have hG : Grew wr wx := (Grew.drew _).trans hR
                exfalso
                simp [Deps, Dep, at_, Is] at hD
                simp_all
              refine ⟨fun a_ wx hR hD => ⟨fun hgd K hK => ?_, fun hgd => ?_⟩, ?_⟩
              · have hG : Grew wr wx := (Grew.drew _).trans hR
                clear hgd
                simp [Deps, Dep, at_, Is] at hD
                obtain ⟨hd0, hd1⟩ := hD
                go_simp
                exact hK _ _ (Grew.refl _) rfl
              · have hG : Grew wr wx := (Grew.drew _).trans hR
                exfalso
                simp [Deps, Dep, at_, Is] at hD
                simp_all
              refine ⟨fun a_ wx hR hD => ⟨fun hgd K hK => ?_, fun hgd => ?_⟩, ?_⟩
              · have hG : Grew wr wx := (Grew.drew _).trans hR
                clear hgd
                simp [Deps, Dep, at_, Is] at hD
                obtain ⟨hd0, hd1⟩ := hD
                go_simp
                exact hK _ _ (Grew.refl _) rfl
              · have hG : Grew wr wx := (Grew.drew _).trans hR
                exfalso
                simp [Deps, Dep, at_, Is] at hD
                simp_all
              refine ⟨fun a_ wx hR hD => ⟨fun hgd K hK => ?_, fun hgd => ?_⟩, ?_⟩
              · have hG : Grew wr wx := (Grew.drew _).trans hR
                clear hgd
                simp [Deps, Dep, at_, Is] at hD
                obtain ⟨hd0, hd1⟩ := hD
                have e_ := CS.out wx hG
                go_simp
                exact hK _ _ (Grew.refl _) rfl
              · have hG : Grew wr wx := (Grew.drew _).trans hR
                exfalso
                simp [Deps, Dep, at_, Is] at hD
                simp_all
              refine ⟨fun a_ wx hR hD => ⟨fun hgd K hK => ?_, fun hgd => ?_⟩, ?_⟩
              · have hG : Grew wr wx := (Grew.drew _).trans hR
                clear hgd
                simp [Deps, Dep, at_, Is] at hD
                obtain ⟨hd0, hd1⟩ := hD
                go_simp
                exact hK _ _ (Grew.refl _) rfl
              · have hG : Grew wr wx := (Grew.drew _).trans hR
                exfalso
                simp [Deps, Dep, at_, Is] at hD
                simp_all
              refine ⟨fun a_ wx hR hD => ⟨fun hgd K hK => ?_, fun hgd => ?_⟩, ?_⟩
              · have hG : Grew wr wx := (Grew.drew _).trans hR
                clear hgd
                simp [Deps, Dep, at_, Is] at hD
                obtain ⟨hd0, hd1⟩ := hD
                go_simp
                exact hK _ _ (Grew.refl _) rfl
              · have hG : Grew wr wx := (Grew.drew _).trans hR
                exfalso
                simp [Deps, Dep, at_, Is] at hD
                simp_all
              refine ⟨fun a_ wx hR hD => ⟨fun hgd K hK => ?_, fun hgd => ?_⟩, ?_⟩
              · have hG : Grew wr wx := (Grew.drew _).trans hR
                clear hgd
                simp [Deps, Dep, at_, Is] at hD
                obtain ⟨hd0, hd1⟩ := hD
                go_simp
                exact hK _ _ (Grew.refl _) rfl
              · have hG : Grew wr wx := (Grew.drew _).trans hR
                exfalso
                simp [Deps, Dep, at_, Is] at hD
                simp_all
              refine ⟨fun a_ wx hR hD => ⟨fun hgd K hK => ?_, fun hgd => ?_⟩, ?_⟩
              · have hG : Grew wr wx := (Grew.drew _).trans hR
                clear hgd
                simp [Deps, Dep, at_, Is] at hD
                obtain ⟨hd0, hd1⟩ := hD
                go_simp
                exact hK _ _ (Grew.refl _) rfl
              · have hG : Grew wr wx := (Grew.drew _).trans hR
                exfalso
                simp [Deps, Dep, at_, Is] at hD
                simp_all
              refine ⟨fun a_ wx hR hD => ⟨fun hgd K hK => ?_, fun hgd => ?_⟩, ?_⟩
              · have hG : Grew wr wx := (Grew.drew _).trans hR
                clear hgd
                simp [Deps, Dep, at_, Is] at hD
                obtain ⟨hd0, hd1⟩ := hD
                have e_ := CN.out wx hG
                go_simp
                exact hK _ _ (Grew.refl _) rfl
              · have hG : Grew wr wx := (Grew.drew _).trans hR
                exfalso
                simp [Deps, Dep, at_, Is] at hD
                simp_all
              refine ⟨fun a_ wx hR hD => ⟨fun hgd K hK => ?_, fun hgd => ?_⟩, ?_⟩
              · have hG : Grew wr wx := (Grew.drew _).trans hR
                clear hgd
                simp [Deps, Dep, at_, Is] at hD
                obtain ⟨hd0, hd1⟩ := hD
                go_simp
                exact hK _ _ (Grew.refl _) rfl
              · have hG : Grew wr wx := (Grew.drew _).trans hR
                exfalso
                simp [Deps, Dep, at_, Is] at hD
                simp_all
              refine ⟨fun a_ wx hR hD => ⟨fun hgd K hK => ?_, fun hgd => ?_⟩, ?_⟩
              · have hG : Grew wr wx := (Grew.drew _).trans hR
                clear hgd
                simp [Deps, Dep, at_, Is] at hD
                obtain ⟨hd0, hd1⟩ := hD
                go_simp
                exact hK _ _ (Grew.refl _) rfl
              · have hG : Grew wr wx := (Grew.drew _).trans hR
                exfalso
                simp [Deps, Dep, at_, Is] at hD
                simp_all
              refine ⟨fun a_ wx hR hD => ⟨fun hgd K hK => ?_, fun hgd => ?_⟩, ?_⟩
              · have hG : Grew wr wx := (Grew.drew _).trans hR
                clear hgd
                simp [Deps, Dep, at_, Is] at hD
                obtain ⟨hd0, hd1⟩ := hD
                go_simp
                exact hK _ _ (Grew.refl _) rfl
              · have hG : Grew wr wx := (Grew.drew _).trans hR
                exfalso
                simp [Deps, Dep, at_, Is] at hD
                simp_all
              refine ⟨fun a_ wx hR hD => ⟨fun hgd K hK => ?_, fun hgd => ?_⟩, ?_⟩
              · have hG : Grew wr wx := (Grew.drew _).trans hR
                clear hgd
                simp [Deps, Dep, at_, Is] at hD
                obtain ⟨hd0, hd1⟩ := hD
                have e_ := CT.out wx hG
                go_simp
                exact hK _ _ (Grew.refl _) rfl
              · have hG : Grew wr wx := (Grew.drew _).trans hR
                exfalso
                simp [Deps, Dep, at_, Is] at hD
                simp_all
              trivial
            · show EndHold _ _ _ _ _ _ _
              refine end_all (xs := [_, _, _, _, _, _, _, _, _, _, _, _, _, _, _, _, _, _]) ⟨rfl, rfl, rfl, rfl, rfl, rfl, rfl, rfl, rfl, rfl, rfl, rfl, rfl, rfl, rfl, rfl, rfl, rfl, trivial⟩ ?_
              rintro w5 hR1 -
              refine ⟨?_⟩
              have hG_w5 : Grew wr w5 := (Grew.drew _).trans hR1
              clear hR1
              simp only [Act.put, List.setIfInBounds_toArray, List.set_cons_succ, List.set_cons_zero, dropN, putEach]
              go_wp2_with fail
              go_roundw
              case rel => exact ⟨i + 1, by go_num, by omega, by rw [dueT_same N l i _ HX.out HSK.out]; exact HI.out.grew hG_w5, by rw [dueO_skip N l i _ HX.out HSK.out]; exact pw_own_below HO.out hG_w5, HU.out.trans (Upd.of_grew hG_w5)⟩
              case measure => simp [intOf]; omega
          · have d4 : decide (N - t < 4) = false := decide_eq_false h4
            have hsk : skipX N ⟨⟨f0, f1, f2, f3, f4⟩, true, t, false⟩ = false := by unfold skipX; rw [d4]; rfl
            have HSK := Lib.hid hsk
            clear hsk h4
            go_wp2_with fail
            apply region_grew [Is _, Is _, Is _, Is _, Is _, Is _, Is _, Is _, Is _, Is _, Is _, Is _, Is _, Is _, Is _, Is _, Is _, Is _] [([(7, none)], none), ([(35, some 0)], none), ([(36, some 1)], none), ([(37, some 2)], none), ([(38, some 3)], none), ([(7, none), (39, some 4)], some (39, false)), ([(40, some 5), (39, some 4)], some (39, false)), ([(41, some 6), (39, some 4)], some (39, false)), ([(42, some 7), (39, some 4)], some (39, false)), ([(43, some 8), (39, some 4)], some (39, false)), ([(0, none), (44, some 9)], some (44, true)), ([(45, some 10), (44, some 9)], some (44, true)), ([(46, some 11), (44, some 9)], some (44, true)), ([(47, some 12), (44, some 9)], some (44, true)), ([(7, none), (44, some 9)], some (44, true)), ([(49, some 14), (44, some 9)], some (44, true)), ([(50, some 15), (44, some 9)], some (44, true)), ([(51, some 16), (44, some 9)], some (44, true))] [(35, 0), (36, 1), (37, 2), (38, 3), (39, 4), (40, 5), (41, 6), (42, 7), (43, 8), (44, 9), (45, 10), (46, 11), (47, 12), (48, 13), (49, 14), (50, 15), (51, 16), (52, 17)] rfl (by kernel_rfl) (by kernel_rfl) (show Stable Grew _ from ⟨Is.stable _, Is.stable _, Is.stable _, Is.stable _, Is.stable _, Is.stable _, Is.stable _, Is.stable _, Is.stable _, Is.stable _, Is.stable _, Is.stable _, Is.stable _, Is.stable _, Is.stable _, Is.stable _, Is.stable _, Is.stable _, trivial⟩)
            · show OpsHold _ _ _ _ _ _ _ _ _
              refine ⟨fun a_ wx hR hD K hK => ?_, ?_⟩
              · have hG : Grew wr wx := (Grew.drew _).trans hR
                simp [Deps, Dep, at_, Is] at hD
                go_simp
                exact hK _ _ (Grew.refl _) rfl
              refine ⟨fun a_ wx hR hD K hK => ?_, ?_⟩
              · have hG : Grew wr wx := (Grew.drew _).trans hR
                simp [Deps, Dep, at_, Is] at hD
                go_simp
                exact hK _ _ (Grew.refl _) rfl
              refine ⟨fun a_ wx hR hD K hK => ?_, ?_⟩
              · have hG : Grew wr wx := (Grew.drew _).trans hR
                simp [Deps, Dep, at_, Is] at hD
                go_simp
                exact hK _ _ (Grew.refl _) rfl
              refine ⟨fun a_ wx hR hD K hK => ?_, ?_⟩
              · have hG : Grew wr wx := (Grew.drew _).trans hR
                simp [Deps, Dep, at_, Is] at hD
                have e_ := CA.out wx hG
                go_simp
                exact hK _ _ (Grew.refl _) rfl
              refine ⟨fun a_ wx hR hD K hK => ?_, ?_⟩
              · have hG : Grew wr wx := (Grew.drew _).trans hR
                simp [Deps, Dep, at_, Is] at hD
                go_simp
                exact hK _ _ (Grew.refl _) rfl
              refine ⟨fun a_ wx hR hD => ⟨fun hgd K hK => ?_, fun hgd => ?_⟩, ?_⟩
              · have hG : Grew wr wx := (Grew.drew _).trans hR
                clear hgd
                simp [Deps, Dep, at_, Is] at hD
                obtain ⟨hd0, hd1⟩ := hD
                go_simp
                exact hK _ _ (Grew.refl _) rfl
              · have hG : Grew wr wx := (Grew.drew _).trans hR
                exfalso
                simp [Deps, Dep, at_, Is] at hD
                simp_all
              refine ⟨fun a_ wx hR hD => ⟨fun hgd K hK => ?_, fun hgd => ?_⟩, ?_⟩
              · have hG : Grew wr wx := (Grew.drew _).trans hR
                clear hgd
                simp [Deps, Dep, at_, Is] at hD
                obtain ⟨hd0, hd1⟩ := hD
                go_simp
                exact hK _ _ (Grew.refl _) rfl
              · have hG : Grew wr wx := (Grew.drew _).trans hR
                exfalso
                simp [Deps, Dep, at_, Is] at hD
                simp_all
              refine ⟨fun a_ wx hR hD => ⟨fun hgd K hK => ?_, fun hgd => ?_⟩, ?_⟩
              · have hG : Grew wr wx := (Grew.drew _).trans hR
                clear hgd
                simp [Deps, Dep, at_, Is] at hD
                obtain ⟨hd0, hd1⟩ := hD
                go_simp
                exact hK _ _ (Grew.refl _) rfl
              · have hG : Grew wr wx := (Grew.drew _).trans hR
                exfalso
                simp [Deps, Dep, at_, Is] at hD
                simp_all
              refine ⟨fun a_ wx hR hD => ⟨fun hgd K hK => ?_, fun hgd => ?_⟩, ?_⟩
              · have hG : Grew wr wx := (Grew.drew _).trans hR
                clear hgd
                simp [Deps, Dep, at_, Is] at hD
                obtain ⟨hd0, hd1⟩ := hD
                have e_ := CS.out wx hG
                go_simp
                exact hK _ _ (Grew.refl _) rfl
              · have hG : Grew wr wx := (Grew.drew _).trans hR
                exfalso
                simp [Deps, Dep, at_, Is] at hD
                simp_all
              refine ⟨fun a_ wx hR hD => ⟨fun hgd K hK => ?_, fun hgd => ?_⟩, ?_⟩
              · have hG : Grew wr wx := (Grew.drew _).trans hR
                clear hgd
                simp [Deps, Dep, at_, Is] at hD
                obtain ⟨hd0, hd1⟩ := hD
                go_simp
                exact hK _ _ (Grew.refl _) rfl
              · have hG : Grew wr wx := (Grew.drew _).trans hR
                exfalso
                simp [Deps, Dep, at_, Is] at hD
                simp_all
              refine ⟨fun a_ wx hR hD => ⟨fun hgd K hK => ?_, fun hgd => ?_⟩, ?_⟩
              · have hG : Grew wr wx := (Grew.drew _).trans hR
                clear hgd
                simp [Deps, Dep, at_, Is] at hD
                obtain ⟨hd0, hd1⟩ := hD
                go_simp
                exact hK _ _ (Grew.refl _) rfl
              · have hG : Grew wr wx := (Grew.drew _).trans hR
                exfalso
                simp [Deps, Dep, at_, Is] at hD
                simp_all
              refine ⟨fun a_ wx hR hD => ⟨fun hgd K hK => ?_, fun hgd => ?_⟩, ?_⟩
              · have hG : Grew wr wx := (Grew.drew _).trans hR
                clear hgd
                simp [Deps, Dep, at_, Is] at hD
                obtain ⟨hd0, hd1⟩ := hD
                go_simp
                exact hK _ _ (Grew.refl _) rfl
              · have hG : Grew wr wx := (Grew.drew _).trans hR
                exfalso
                simp [Deps, Dep, at_, Is] at hD
                simp_all
              refine ⟨fun a_ wx hR hD => ⟨fun hgd K hK => ?_, fun hgd => ?_⟩, ?_⟩
              · have hG : Grew wr wx := (Grew.drew _).trans hR
                clear hgd
                simp [Deps, Dep, at_, Is] at hD
                obtain ⟨hd0, hd1⟩ := hD
                go_simp
                exact hK _ _ (Grew.refl _) rfl
              · have hG : Grew wr wx := (Grew.drew _).trans hR
                exfalso
                simp [Deps, Dep, at_, Is] at hD
                simp_all
              refine ⟨fun a_ wx hR hD => ⟨fun hgd K hK => ?_, fun hgd => ?_⟩, ?_⟩
              · have hG : Grew wr wx := (Grew.drew _).trans hR
                clear hgd
                simp [Deps, Dep, at_, Is] at hD
                obtain ⟨hd0, hd1⟩ := hD
                have e_ := CN.out wx hG
                go_simp
                exact hK _ _ (Grew.refl _) rfl
              · have hG : Grew wr wx := (Grew.drew _).trans hR
                exfalso
                simp [Deps, Dep, at_, Is] at hD
                simp_all
              refine ⟨fun a_ wx hR hD => ⟨fun hgd K hK => ?_, fun hgd => ?_⟩, ?_⟩
              · have hG : Grew wr wx := (Grew.drew _).trans hR
                clear hgd
                simp [Deps, Dep, at_, Is] at hD
                obtain ⟨hd0, hd1⟩ := hD
                go_simp
                exact hK _ _ (Grew.refl _) rfl
              · have hG : Grew wr wx := (Grew.drew _).trans hR
                exfalso
                simp [Deps, Dep, at_, Is] at hD
                simp_all
              refine ⟨fun a_ wx hR hD => ⟨fun hgd K hK => ?_, fun hgd => ?_⟩, ?_⟩
              · have hG : Grew wr wx := (Grew.drew _).trans hR
                clear hgd
                simp [Deps, Dep, at_, Is] at hD
                obtain ⟨hd0, hd1⟩ := hD
                go_simp
                exact hK _ _ (Grew.refl _) rfl
              · have hG : Grew wr wx := (Grew.drew _).trans hR
                exfalso
                simp [Deps, Dep, at_, Is] at hD
                simp_all
              refine ⟨fun a_ wx hR hD => ⟨fun hgd K hK => ?_, fun hgd => ?_⟩, ?_⟩
              · have hG : Grew wr wx := (Grew.drew _).trans hR
                clear hgd
                simp [Deps, Dep, at_, Is] at hD
                obtain ⟨hd0, hd1⟩ := hD
                go_simp
                exact hK _ _ (Grew.refl _) rfl
              · have hG : Grew wr wx := (Grew.drew _).trans hR
                exfalso
                simp [Deps, Dep, at_, Is] at hD
                simp_all
              refine ⟨fun a_ wx hR hD => ⟨fun hgd K hK => ?_, fun hgd => ?_⟩, ?_⟩
              · have hG : Grew wr wx := (Grew.drew _).trans hR
                clear hgd
                simp [Deps, Dep, at_, Is] at hD
                obtain ⟨hd0, hd1⟩ := hD
                have e_ := CT.out wx hG
                go_simp
                exact hK _ _ (Grew.refl _) rfl
              · have hG : Grew wr wx := (Grew.drew _).trans hR
                exfalso
                simp [Deps, Dep, at_, Is] at hD
                simp_all
              trivial
            · show EndHold _ _ _ _ _ _ _
              refine end_all (xs := [_, _, _, _, _, _, _, _, _, _, _, _, _, _, _, _, _, _]) ⟨rfl, rfl, rfl, rfl, rfl, rfl, rfl, rfl, rfl, rfl, rfl, rfl, rfl, rfl, rfl, rfl, rfl, rfl, trivial⟩ ?_
              rintro w5 hR1 -
              refine ⟨?_⟩
              have hG_w5 : Grew wr w5 := (Grew.drew _).trans hR1
              clear hR1
              simp only [Act.put, List.setIfInBounds_toArray, List.set_cons_succ, List.set_cons_zero, dropN, putEach]
              clear hw
              have hI5 := HI.out.grew hG_w5
              have ho5 := pw_own_below HO.out hG_w5
              have hu5 := HU.out.trans (Upd.of_grew (S := sndS g (.slice (some ⟨g1, o, none⟩) k cc)) hG_w5)
              have c5 := pw_cell_below hG_w5 (HCELL.out 5 (by omega))
              have c6 := pw_cell_below hG_w5 (HCELL.out 6 (by omega))
              have c0 := pw_cell_below hG_w5 (HCELL.out 0 (by omega))
              have c1 := pw_cell_below hG_w5 (HCELL.out 1 (by omega))
              have c2 := pw_cell_below hG_w5 (HCELL.out 2 (by omega))
              have c3 := pw_cell_below hG_w5 (HCELL.out 3 (by omega))
              have c4 := pw_cell_below hG_w5 (HCELL.out 4 (by omega))
              have c9 := CN.out w5 hG_w5
              simp only [sdc1, List.getElem?_cons_zero, List.getElem?_cons_succ, Nat.add_zero] at c5 c6 c0 c1 c2 c3 c4
              have z5 : w5.frozen? ⟨g1, o + i * 8 + 5, none⟩ = false := (hG_w5.frozen (p := ⟨g1, o + i * 8 + 5, none⟩) hg1).trans (HF.out _)
              have z6 : w5.frozen? ⟨g1, o + i * 8 + 6, none⟩ = false := (hG_w5.frozen (p := ⟨g1, o + i * 8 + 6, none⟩) hg1).trans (HF.out _)
              obtain ⟨W6, hW6⟩ : ∃ W6, W6 = (w5.setCell ⟨g1, o + i * 8 + 5, none⟩ (.bool true)).setCell ⟨g1, o + i * 8 + 6, none⟩ (.int .i64 N) := ⟨_, rfl⟩
              have hs6 : Upd (fun j => j = g1) w5 W6 := by
                rw [hW6]
                exact Upd.set (S := fun j => j = g1) (p := ⟨g1, o + i * 8 + 6, none⟩) (Upd.set (S := fun j => j = g1) (p := ⟨g1, o + i * 8 + 5, none⟩) (Upd.refl _ _) (.inl rfl) _) (.inl rfl) _
              have hrow6 : RowO W6 B 86 8 (.slice (some ⟨g1, o, none⟩) k cc) k (sdc ((dueT N l i).set i ⟨⟨f0, f1, f2, f3, f4⟩, true, N, false⟩)) := by
                have h := hI5.row
                rw [dueT_len, ← HK.out] at h
                have h := (h.set rfl (i * 8 + 5) (by omega) (.bool true)).set rfl (i * 8 + 6) (by omega) (.int .i64 N)
                rw [sdc_set _ i _ true N HAT.out, ← Nat.add_assoc, ← Nat.add_assoc, ← hW6] at h
                exact h
              have hne1 := hI5.ne
              have hI6 : SndM B g (.slice (some ⟨g1, o, none⟩) k cc) (dueT N l (i + 1)) f N W6 := by
                refine ⟨hI5.cells.upd hs6 (fun e => hne1 (by rw [e]; rfl)), ?_, hI5.hg⟩
                rw [dueT_len, ← HK.out, dueT_succ N l i _ HX.out]
                have e : dueX N ⟨⟨f0, f1, f2, f3, f4⟩, true, t, false⟩ = ⟨⟨f0, f1, f2, f3, f4⟩, true, N, false⟩ := by unfold dueX; rw [HSK.out]; rfl
                rw [e]
                exact hrow6
              have hu6 := hu5.trans (hs6.mono fun j _ e => .inr (by rw [e]; rfl))
              have ho6 := hs6.own ho5 (fun j hj e => hI5.ne_own ho5 j (.inr (by rw [e]; rfl)) hj)
              obtain ⟨Ao, co, rfl⟩ := own_slice ho5
              have hz6 : W6.heap.size = w5.heap.size := by rw [hW6]; simp
              have hgr7 : Grew W6 (W6.alloc (.cells (pkc ⟨f0, f1, f2, f3, f4⟩).toArray 30)) := Grew.alloc _ _
              obtain ⟨v8, w8, hrun, hown8, hgr8, -⟩ := app_cells (P := Try.prog) (W6.alloc (.cells (pkc ⟨f0, f1, f2, f3, f4⟩).toArray 30)) w.heap.size 53 30 53 (.agg #[.bool false, .int .i64 0, .bool false, .string ⟨#[]⟩, .int .i64 0]) 5 48 Try.underlying53 infoPk rfl (by decide) (by decide) (.slice Ao (dueO N l i).length co) (dueO N l i).length (pks (dueO N l i)) W6.heap.size (pkc ⟨f0, f1, f2, f3, f4⟩) rfl (by intro u hu; simp [pkc] at hu; rcases hu with rfl | rfl | rfl | rfl | rfl <;> rfl) (pw_own_below ho6 hgr7) (Blk.new _ _ _) (Nat.le_trans hu6.size hgr7.size) (by have := hlen.out; omega)
              rw [hz6, hW6] at hrun
              have hI7 := hI6.grew hgr7
              have hI8 := hI7.far (Upd.of_grown hgr8) (fun j hj => hI7.ne_own (pw_own_below ho6 hgr7) j hj)
              have hu8 := (hu6.trans (Upd.of_grew (S := sndS g (.slice (some ⟨g1, o, none⟩) k cc)) hgr7)).grown hgr8 (fun j hj => .inr (own_base ho6 j hj))
              have HI8 := Lib.hid hI8
              have HU8 := Lib.hid hu8
              have HO8 := Lib.hid hown8
              have HRUN := Lib.hid hrun
              clear hI5 ho5 hu5 hs6 hrow6 hne1 hI6 hu6 ho6 hW6 hG_w5 hI7 hI8 hu8 hown8 hrun hgr8 hgr7 hz6
              go_wp2_with (at_builtin; refine wpList_app (by rfl) (.tmp 67) (.tmp 72) 53 (by rfl) (by rfl) (by rfl) HRUN.out ?_)
              go_roundw
              case rel => exact ⟨i + 1, by go_num, by omega, HI8.out, by rw [dueO_take N l i _ HX.out HSK.out, List.length_append, pks_snoc]; exact HO8.out, HU8.out⟩
              case measure => simp [intOf]; omega
    · obtain rfl : i = M := by omega
      have e1 : decide ((i : Int) < (i : Int)) = false := decide_eq_false (by omega)
      have HI := Lib.hid hI
      have HO := Lib.hid ho
      clear hI ho
      go_wp2_with fail
      go_ret
      exact ⟨_, rfl, HO.out, HI.out, hu⟩
end Go.Proofs.Yteaefambkagpbaa.F

-- LnkL
namespace Go.Proofs.Yteaefambkagpbaa.F
open Go Go.RowKit Go.Proofs.YteaefambkagpbaaW.PrintWords Go.Proofs.YteaefambkagpbaaW.PrintLast Go.Proofs.YteaefambkagpbaaW.PrintMore Go.Proofs.YteaefambkagpbaaM Go.Proofs.YteaefambkagpbaaR
attribute [local go_sem] max2_int min2_int max_two min_two
set_option linter.unusedSimpArgs false
set_option linter.unusedVariables false
set_option maxRecDepth 100000
theorem cutP_201 (m : ByteArray) (h : m.size = 201) : cutP m = [⟨false, 0, false, m.extract 0 200, 0⟩, ⟨false, 0, true, m.extract 200 201, 0⟩] := by
  unfold cutP
  rw [h, cutN, if_pos (by omega), h, cutN, if_neg (by rw [ByteArray.size_extract]; omega)]
set_option maxHeartbeats 4000000 in
theorem lives_c (w : World) : Calls Try.prog 7 #[] w (Tells w (Is (.bool true))) := by
  obtain ⟨Z, hZ⟩ : ∃ Z, Z = strOfNums (List.replicate 201 0) := ⟨_, rfl⟩
  have hz : Z.size = 201 := by rw [hZ, str_size, List.length_replicate]
  have hcut := cutP_201 Z hz
  obtain ⟨e0, he0⟩ : ∃ e0, e0 = Z.extract 0 200 := ⟨_, rfl⟩
  obtain ⟨e1, he1⟩ : ∃ e1, e1 = Z.extract 200 201 := ⟨_, rfl⟩
  have hs0 : e0.size = 200 := by rw [he0, ByteArray.size_extract]; omega
  have hs1 : e1.size = 1 := by rw [he1, ByteArray.size_extract]; omega
  rw [← he0, ← he1] at hcut
  have HPUT := Lib.hid (fun (w : World) (B g : Nat) (v : Value) (hS : SndM B g v [] 0 0 w) (hB : B ≤ w.heap.size) => sput_c w B g v [] 0 0 hS Z (by omega) (by rw [hcut]; simp) (by decide) (by decide) hB)
  rw [hcut] at HPUT
  have hfr : ([] : List S86) ++ fresh (0 + (([] : List S86).length : Int)) [⟨false, 0, false, e0, 0⟩, ⟨false, 0, true, e1, 0⟩] = [⟨⟨false, 0, false, e0, 0⟩, false, 0, false⟩, ⟨⟨false, 1, true, e1, 0⟩, false, 0, false⟩] := rfl
  rw [hfr] at HPUT
  have HDUE := Lib.hid (fun (w : World) (B g : Nat) (v : Value) (hS : SndM B g v [⟨⟨false, 0, false, e0, 0⟩, false, 0, false⟩, ⟨⟨false, 1, true, e1, 0⟩, false, 0, false⟩] 0 0 w) => due_c w B g v _ 0 0 0 0 hS (by decide) (by decide) (by decide) (by intro x hx; simp at hx; rcases hx with rfl | rfl <;> exact ⟨by simp, by simp⟩) (by simp))
  have hdo : dueO 0 [⟨⟨false, 0, false, e0, 0⟩, false, 0, false⟩, ⟨⟨false, 1, true, e1, 0⟩, false, 0, false⟩] 8 = [⟨false, 0, false, e0, 0⟩, ⟨false, 1, true, e1, 0⟩] := rfl
  rw [hdo] at HDUE
  have HZ := Lib.hid hZ
  have HS0 := Lib.hid hs0
  have HS1 := Lib.hid hs1
  clear hcut he0 he1 hfr hdo hZ hz hs0 hs1
  go_enter Try.func7, Try.ntmps7
  go_wp2_with fail
  refine (snew_c w).mono ?_
  rintro e w1 ⟨_, rfl, ⟨g, r, rfl, hS⟩, hg1⟩
  have hmk := print_make (P := Try.prog) 24 5 .u8 1 Try.underlying24 info5 (by decide) 201 (by omega)
  rw [show ((201 : Nat) : Int) = 201 from rfl] at hmk
  have hst := own_string (P := Try.prog) Try.underlying24 Try.underlying5 Try.underlying9 (own_made w1 w1.heap.size 5 .u8 201 (Nat.le_refl _) (by omega))
  rw [← HZ.out] at hst
  go_wp2_with fail
  clear hmk hst
  refine (HPUT.out _ w.heap.size g r (hS.grew (Grew.alloc _ _)) (by have := hg1.size; simp; omega)).mono ?_
  rintro e w2 ⟨v2, rfl, hS2, hu2, -⟩
  have hS' := hS
  have hg2 : Grew w w2 := (((Upd.of_grew (S := sndS g r) hg1).trans (Upd.of_grew (Grew.alloc w1 _))).trans hu2).grew (fun i hi h => by
    rcases h with rfl | h
    · have := hS'.hg; omega
    · have := hS'.row.base_ i h; omega)
  go_wp2_with fail
  refine (HDUE.out w2 w.heap.size g v2 hS2).mono ?_
  rintro e w3 ⟨vo, rfl, ho, hS3, hu3⟩
  have hg3 : Grew w w3 := ((Upd.of_grew (S := sndS g v2) hg2).trans hu3).grew (fun i hi h => by
    rcases h with rfl | h
    · have := hS'.hg; omega
    · have := hS2.row.base_ i h; omega)
  have hS3' := hS3.row
  obtain ⟨gq, o, cap, rfl, hc2, -, -, hcell, -⟩ := (rowO_of_own ho).at_ (by simp)
  have c3 := hcell 3 (by simp)
  have c2 := hcell 2 (by simp)
  have c8 := hcell 8 (by simp)
  have c7 := hcell 7 (by simp)
  simp [pks, pkc] at c3 c2 c8 c7
  have HS3 := Lib.hid (fun wx (h : Grew w3 wx) => wait_c wx w.heap.size g v2 _ 0 0 (hS3.grew h))
  simp only [dueT_len, List.length_cons, List.length_nil] at HS3
  have hs0 := HS0.out
  have hs1 := HS1.out
  clear hcell ho hS3 hS3' hS2 hS hS' hc2
  go_wp2_with fail
  refine (HS3.out w3 (Grew.refl _)).mono ?_
  rintro e w4 ⟨_, rfl, rfl, hg4⟩
  go_wp2_with fail
  go_ret
  exact ⟨_, rfl, rfl, Grew.trans hg3 hg4⟩
end Go.Proofs.Yteaefambkagpbaa.F
