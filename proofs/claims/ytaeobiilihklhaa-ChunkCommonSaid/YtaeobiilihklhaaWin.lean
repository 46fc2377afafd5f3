/- The type Window of the package roll: what each method comes to, for a window whose ring lies in blocks of its own. -/
import Derived.Test.YtaeobiilihklhaaRollE
import Derived.Test.YtaeobiilihklhaaUpd
import Derived.Test.YtaeobiilihklhaaWinM
import Derived.Outline
namespace Go.Proofs.Ytaeobiilihklhaa.F
open Go Go.RowKit Go.Proofs.YtaeobiilihklhaaW.PrintWords Go.Proofs.YtaeobiilihklhaaW.PrintLast Go.Proofs.YtaeobiilihklhaaW.PrintMore Go.Proofs.YtaeobiilihklhaaM Go.Proofs.YtaeobiilihklhaaR
attribute [local go_sem] max2_int min2_int max_two min_two
set_option linter.unusedSimpArgs false
set_option linter.unusedVariables false
set_option maxRecDepth 100000
/-- a window's two blocks, and what it has -/
structure Win (g gb size : Nat) (s : List Int) (a : Nat) (b : List Int) (w : World) : Prop where
  ne : g ≠ gb
  cells : Blk w g 67 [.slice (some ⟨gb, 0, none⟩) size size, .int .i64 a, .int .i64 s.length, .int .u32 (weak s)]
  row : Blk w gb 5 (nums .u8 b)
  len : b.length = size
  ring : Ring b a s
  small : size ≤ 65536
  bytes : ∀ x ∈ s, 0 ≤ x ∧ x < 256
def WinB (g gb size : Nat) (s : List Int) (w : World) : Prop := ∃ a b, Win g gb size s a b w
theorem Win.upd {S : Nat → Prop} {g gb size a : Nat} {s b : List Int} {w w' : World} (h : Win g gb size s a b w) (hu : Upd S w w') (h1 : ¬ S g) (h2 : ¬ S gb) : Win g gb size s a b w' :=
  ⟨h.ne, h.cells.upd hu h1, h.row.upd hu h2, h.len, h.ring, h.small, h.bytes⟩
theorem WinB.upd {S : Nat → Prop} {g gb size : Nat} {s : List Int} {w w' : World} (h : WinB g gb size s w) (hu : Upd S w w') (h1 : ¬ S g) (h2 : ¬ S gb) : WinB g gb size s w' := by
  obtain ⟨a, b, h⟩ := h
  exact ⟨a, b, h.upd hu h1 h2⟩
theorem WinB.grew {g gb size : Nat} {s : List Int} {w w' : World} (h : WinB g gb size s w) (hu : Grew w w') : WinB g gb size s w' := h.upd (Upd.of_grew (S := fun _ => False) hu) id id
theorem WinB.bytes {g gb size : Nat} {s : List Int} {w : World} (h : WinB g gb size s w) : ∀ x ∈ s, 0 ≤ x ∧ x < 256 := by
  obtain ⟨a, b, h⟩ := h
  exact h.bytes
theorem WinB.len {g gb size : Nat} {s : List Int} {w : World} (h : WinB g gb size s w) : s.length ≤ size := by
  obtain ⟨a, b, h⟩ := h
  have := h.ring.len
  have := h.len
  omega
/-- which blocks a window may change -/
def WS (g gb : Nat) : Nat → Prop := fun k => k = g ∨ k = gb
theorem clear_c (g gb size : Nat) (s : List Int) (w : World) (h : WinB g gb size s w) : Calls Try.prog 29 #[.pointer (some ⟨g, 0, none⟩)] w (Does (WS g gb) w (fun w' v => v = .tuple #[] ∧ WinB g gb size [] w')) := by
  obtain ⟨a, b, h⟩ := h
  have c0 := h.cells.at_ 0
  have c1 := h.cells.at_ 1
  have c2 := h.cells.at_ 2
  have c3 := h.cells.at_ 3
  have z1 := h.cells.fz 1
  have z2 := h.cells.fz 2
  have z3 := h.cells.fz 3
  simp at c0 c1 c2 c3
  go_enter Try.func29, Try.ntmps29
  go_wp2
  go_end0
  have hb := ((h.cells.set 1 (.int .i64 0)).set 2 (.int .i64 0)).set 3 (.int .u32 0)
  have hr := ((h.row.far (p := ⟨g, 1, none⟩) h.ne.symm (.int .i64 0)).far (p := ⟨g, 2, none⟩) h.ne.symm (.int .i64 0)).far (p := ⟨g, 3, none⟩) h.ne.symm (.int .u32 0)
  refine ⟨_, rfl, ⟨rfl, 0, b, h.ne, hb, hr, h.len, Ring.nil (by have := h.ring.lt; omega), h.small, by simp⟩, ?_⟩
  exact (((Upd.refl _ w).set (p := ⟨g, 1, none⟩) (.inl (.inl rfl)) _).set (p := ⟨g, 2, none⟩) (.inl (.inl rfl)) _).set (p := ⟨g, 3, none⟩) (.inl (.inl rfl)) _
/-- a new window -/
def NewWin (B size : Nat) : World → Value → Prop := fun w' v => ∃ g gb, v = .tuple #[.pointer (some ⟨g, 0, none⟩), .int .i64 0] ∧ B ≤ g ∧ B ≤ gb ∧ g ≠ gb ∧ WinB g gb size [] w'
theorem new_c (size : Nat) (w : World) (h1 : 1 ≤ size) (h2 : size ≤ 65536) : Calls Try.prog 24 #[.int .i64 size] w (Tells w (NewWin w.heap.size size)) := by
  have hmk := print_make (P := Try.prog) 42 5 .u8 1 Try.underlying42 info5 (by decide) size (by omega)
  have d1 : ¬ ((size : Int) < 1) := by omega
  have d2 : ¬ ((65536 : Int) < size) := by omega
  go_enter Try.func24, Try.ntmps24
  go_wp2
  go_ret2
  refine ⟨_, rfl, ⟨w.heap.size + 1, w.heap.size, rfl, by omega, by omega, by omega, 0, List.replicate size 0, by omega, ?_, ?_, by simp, Ring.nil (by simp; omega), h2, by simp⟩, (Grew.alloc _ _).trans (Grew.alloc _ _)⟩
  · have := Blk.new (w.alloc (Obj.cells (madeCells #[Value.int IntKind.u8 0] size) 5)) 67 [.slice (some ⟨w.heap.size, 0, none⟩) size size, .int .i64 0, .int .i64 0, .int .u32 0]
    rw [show weak [] = 0 from rfl]
    simpa using this
  · have := Blk.new w 5 (nums .u8 (List.replicate size 0))
    have e : (nums .u8 (List.replicate size 0)).toArray = madeCells #[Value.int IntKind.u8 0] size := by
      apply Array.ext'
      refine List.ext_getElem (by simp [nums, madeCells]) fun i h1 h2 => ?_
      simp [nums, madeCells, Nat.mod_one]
    rw [e] at this
    exact blk_alloc this _
theorem new_no (size : Int) (w : World) (h : size < 1 ∨ 65536 < size) : Calls Try.prog 24 #[.int .i64 size] w (Tells w (Is (.tuple #[.pointer none, .int .i64 1]))) := by
  rcases h with h | h
  · go_enter Try.func24, Try.ntmps24
    go_wp2
    go_ret2
    exact ⟨_, rfl, rfl, Grew.refl _⟩
  · have d1 : ¬ (size < 1) := by omega
    go_enter Try.func24, Try.ntmps24
    go_wp2
    go_ret2
    exact ⟨_, rfl, rfl, Grew.refl _⟩
theorem wsum_c (g gb size : Nat) (s : List Int) (w : World) (h : WinB g gb size s w) : Calls Try.prog 27 #[.pointer (some ⟨g, 0, none⟩)] w (Tells w (Is (.tuple #[.int .u32 (weak s), .bool ((s.length : Int) == size)]))) := by
  obtain ⟨a, b, h⟩ := h
  have C0 := Lib.hid (h.cells.at_ 0)
  have C2 := Lib.hid (h.cells.at_ 2)
  have C3 := Lib.hid (h.cells.at_ 3)
  go_enter Try.func27, Try.ntmps27
  go_wp2
  apply region_grew [Is _, Is _, Is _, Is _, Is _, Is _, Is _, Is _, Is _, Is _, Is _, Is _, Is _, Is _, Is _] [([(0, none)], none), ([(6, some 0)], none), ([(7, some 1)], none), ([(8, some 2)], none), ([(0, none)], none), ([(10, some 4)], none), ([(11, some 5)], none), ([(12, some 6)], none), ([(0, none)], none), ([(14, some 8)], none), ([(15, some 9)], none), ([(16, some 10)], none), ([(17, some 11)], none), ([(13, some 7), (18, some 12)], none), ([(9, some 3)], none)] [(2, 14), (6, 0), (7, 1), (8, 2), (9, 3), (10, 4), (11, 5), (12, 6), (13, 7), (14, 8), (15, 9), (16, 10), (17, 11), (18, 12), (19, 13)] rfl (by kernel_rfl) (by kernel_rfl) (show Stable Grew _ from ⟨Is.stable _, Is.stable _, Is.stable _, Is.stable _, Is.stable _, Is.stable _, Is.stable _, Is.stable _, Is.stable _, Is.stable _, Is.stable _, Is.stable _, Is.stable _, Is.stable _, Is.stable _, trivial⟩)
  · show OpsHold _ _ _ _ _ _ _ _ _
    refine ⟨fun a_ wx hR hD K hK => ?_, ?_⟩
    · have hG : Grew w wx := (Grew.drew _).trans hR
      simp [Deps, Dep, at_, Is] at hD
      go_simp
      exact hK _ _ (Grew.refl _) rfl
    refine ⟨fun a_ wx hR hD K hK => ?_, ?_⟩
    · have hG : Grew w wx := (Grew.drew _).trans hR
      simp [Deps, Dep, at_, Is] at hD
      go_simp
      exact hK _ _ (Grew.refl _) rfl
    refine ⟨fun a_ wx hR hD K hK => ?_, ?_⟩
    · have hG : Grew w wx := (Grew.drew _).trans hR
      simp [Deps, Dep, at_, Is] at hD
      go_simp
      exact hK _ _ (Grew.refl _) rfl
    refine ⟨fun a_ wx hR hD K hK => ?_, ?_⟩
    · have hG : Grew w wx := (Grew.drew _).trans hR
      simp [Deps, Dep, at_, Is] at hD
      have e_ := pw_cell_below hG C3.out
      go_simp
      exact hK _ _ (Grew.refl _) rfl
    refine ⟨fun a_ wx hR hD K hK => ?_, ?_⟩
    · have hG : Grew w wx := (Grew.drew _).trans hR
      simp [Deps, Dep, at_, Is] at hD
      go_simp
      exact hK _ _ (Grew.refl _) rfl
    refine ⟨fun a_ wx hR hD K hK => ?_, ?_⟩
    · have hG : Grew w wx := (Grew.drew _).trans hR
      simp [Deps, Dep, at_, Is] at hD
      go_simp
      exact hK _ _ (Grew.refl _) rfl
    refine ⟨fun a_ wx hR hD K hK => ?_, ?_⟩
    · have hG : Grew w wx := (Grew.drew _).trans hR
      simp [Deps, Dep, at_, Is] at hD
      go_simp
      exact hK _ _ (Grew.refl _) rfl
    refine ⟨fun a_ wx hR hD K hK => ?_, ?_⟩
    · have hG : Grew w wx := (Grew.drew _).trans hR
      simp [Deps, Dep, at_, Is] at hD
      have e_ := pw_cell_below hG C2.out
      go_simp
      exact hK _ _ (Grew.refl _) rfl
    refine ⟨fun a_ wx hR hD K hK => ?_, ?_⟩
    · have hG : Grew w wx := (Grew.drew _).trans hR
      simp [Deps, Dep, at_, Is] at hD
      go_simp
      exact hK _ _ (Grew.refl _) rfl
    refine ⟨fun a_ wx hR hD K hK => ?_, ?_⟩
    · have hG : Grew w wx := (Grew.drew _).trans hR
      simp [Deps, Dep, at_, Is] at hD
      go_simp
      exact hK _ _ (Grew.refl _) rfl
    refine ⟨fun a_ wx hR hD K hK => ?_, ?_⟩
    · have hG : Grew w wx := (Grew.drew _).trans hR
      simp [Deps, Dep, at_, Is] at hD
      go_simp
      exact hK _ _ (Grew.refl _) rfl
    refine ⟨fun a_ wx hR hD K hK => ?_, ?_⟩
    · have hG : Grew w wx := (Grew.drew _).trans hR
      simp [Deps, Dep, at_, Is] at hD
      have e_ := pw_cell_below hG C0.out
      go_simp
      exact hK _ _ (Grew.refl _) rfl
    refine ⟨fun a_ wx hR hD K hK => ?_, ?_⟩
    · have hG : Grew w wx := (Grew.drew _).trans hR
      simp [Deps, Dep, at_, Is] at hD
      go_simp
      exact hK _ _ (Grew.refl _) rfl
    refine ⟨fun a_ wx hR hD K hK => ?_, ?_⟩
    · have hG : Grew w wx := (Grew.drew _).trans hR
      simp [Deps, Dep, at_, Is] at hD
      obtain ⟨hd0, hd1⟩ := hD
      go_simp
      exact hK _ _ (Grew.refl _) rfl
    refine ⟨fun a_ wx hR hD K hK => ?_, ?_⟩
    · have hG : Grew w wx := (Grew.drew _).trans hR
      simp [Deps, Dep, at_, Is] at hD
      go_simp
      exact hK _ _ (Grew.refl _) rfl
    trivial
  · show EndHold _ _ _ _ _ _ _
    refine end_all (xs := [_, _, _, _, _, _, _, _, _, _, _, _, _, _, _]) ⟨rfl, rfl, rfl, rfl, rfl, rfl, rfl, rfl, rfl, rfl, rfl, rfl, rfl, rfl, rfl, trivial⟩ ?_
    rintro w1 hR1 -
    refine ⟨?_⟩
    have hG_w1 : Grew w w1 := (Grew.drew _).trans hR1
    clear hR1
    simp only [Act.put, List.setIfInBounds_toArray, List.set_cons_succ, List.set_cons_zero, dropN, putEach]
    go_wp2
    go_ret2
    exact ⟨_, rfl, rfl, hG_w1⟩
theorem put_c (g gb size : Nat) (s : List Int) (c : Int) (hc : 0 ≤ c ∧ c < 256) (w : World) (h : WinB g gb size s w) : Calls Try.prog 26 #[.pointer (some ⟨g, 0, none⟩), .int .u8 c] w (Does (WS g gb) w (fun w' v => v = .tuple #[] ∧ WinB g gb size (lastL size (s ++ [c])) w')) := by
  obtain ⟨a, b, h⟩ := h
  have C0 := Lib.hid (h.cells.at_ 0)
  have C1 := Lib.hid (h.cells.at_ 1)
  have C2 := Lib.hid (h.cells.at_ 2)
  have C3 := Lib.hid (h.cells.at_ 3)
  obtain ⟨hc0, hc1⟩ := hc
  have hl := h.ring.len
  have hlt := h.ring.lt
  have hb := h.len
  have hsm := h.small
  rw [hb] at hl hlt
  clear hb
  have H := Lib.hid h
  clear h
  by_cases hroom : s.length < size
  · have d1 : decide (s.length < size) = true := decide_eq_true hroom
    have e1 : (((a : Int) + (s.length : Int)).tmod (size : Int)) = (((a + s.length) % size : Nat) : Int) := by
      rw [show ((a : Int) + (s.length : Int)) = ((a + s.length : Nat) : Int) from by omega]; rfl
    have e2 : (a + s.length) % size < size := Nat.mod_lt _ (by omega)
    obtain ⟨p, hp⟩ : ∃ p, p = (a + s.length) % size := ⟨_, rfl⟩
    rw [← hp] at e1 e2
    have HP := Lib.hid hp
    clear hp
    have e3 : IntKind.i64.wrap ((a : Int) + (s.length : Int)) = (a : Int) + (s.length : Int) := IntWalk.i64_in _ (by omega)
    have z0 : ¬ size = 0 := by omega
    go_enter Try.func26, Try.ntmps26
    go_wp2
    apply region_grew [Is _, Is _, Is _, Is _, Is _, Is _, Is _, Is _, Is _] [([(0, none)], none), ([(6, some 0)], none), ([(7, some 1)], none), ([(8, some 2)], none), ([(0, none)], none), ([(10, some 4)], none), ([(11, some 5)], none), ([(12, some 6)], none), ([(13, some 7)], none)] [(6, 0), (7, 1), (8, 2), (9, 3), (10, 4), (11, 5), (12, 6), (13, 7), (14, 8)] rfl (by kernel_rfl) (by kernel_rfl) (show Stable Grew _ from ⟨Is.stable _, Is.stable _, Is.stable _, Is.stable _, Is.stable _, Is.stable _, Is.stable _, Is.stable _, Is.stable _, trivial⟩)
    · show OpsHold _ _ _ _ _ _ _ _ _
      refine ⟨fun a_ wx hR hD K hK => ?_, ?_⟩
      · have hG : Grew w wx := (Grew.drew _).trans hR
        simp [Deps, Dep, at_, Is] at hD
        go_simp
        exact hK _ _ (Grew.refl _) rfl
      refine ⟨fun a_ wx hR hD K hK => ?_, ?_⟩
      · have hG : Grew w wx := (Grew.drew _).trans hR
        simp [Deps, Dep, at_, Is] at hD
        go_simp
        exact hK _ _ (Grew.refl _) rfl
      refine ⟨fun a_ wx hR hD K hK => ?_, ?_⟩
      · have hG : Grew w wx := (Grew.drew _).trans hR
        simp [Deps, Dep, at_, Is] at hD
        go_simp
        exact hK _ _ (Grew.refl _) rfl
      refine ⟨fun a_ wx hR hD K hK => ?_, ?_⟩
      · have hG : Grew w wx := (Grew.drew _).trans hR
        simp [Deps, Dep, at_, Is] at hD
        have e_ := pw_cell_below hG C2.out
        go_simp
        exact hK _ _ (Grew.refl _) rfl
      refine ⟨fun a_ wx hR hD K hK => ?_, ?_⟩
      · have hG : Grew w wx := (Grew.drew _).trans hR
        simp [Deps, Dep, at_, Is] at hD
        go_simp
        exact hK _ _ (Grew.refl _) rfl
      refine ⟨fun a_ wx hR hD K hK => ?_, ?_⟩
      · have hG : Grew w wx := (Grew.drew _).trans hR
        simp [Deps, Dep, at_, Is] at hD
        go_simp
        exact hK _ _ (Grew.refl _) rfl
      refine ⟨fun a_ wx hR hD K hK => ?_, ?_⟩
      · have hG : Grew w wx := (Grew.drew _).trans hR
        simp [Deps, Dep, at_, Is] at hD
        go_simp
        exact hK _ _ (Grew.refl _) rfl
      refine ⟨fun a_ wx hR hD K hK => ?_, ?_⟩
      · have hG : Grew w wx := (Grew.drew _).trans hR
        simp [Deps, Dep, at_, Is] at hD
        have e_ := pw_cell_below hG C0.out
        go_simp
        exact hK _ _ (Grew.refl _) rfl
      refine ⟨fun a_ wx hR hD K hK => ?_, ?_⟩
      · have hG : Grew w wx := (Grew.drew _).trans hR
        simp [Deps, Dep, at_, Is] at hD
        go_simp
        exact hK _ _ (Grew.refl _) rfl
      trivial
    · show EndHold _ _ _ _ _ _ _
      refine end_all (xs := [_, _, _, _, _, _, _, _, _]) ⟨rfl, rfl, rfl, rfl, rfl, rfl, rfl, rfl, rfl, trivial⟩ ?_
      rintro w1 hR1 -
      refine ⟨?_⟩
      have hG_w1 : Grew w w1 := (Grew.drew _).trans hR1
      clear hR1
      simp only [Act.put, List.setIfInBounds_toArray, List.set_cons_succ, List.set_cons_zero, dropN, putEach]
      go_wp2
      apply region_grew [Is _, Is _, Is _, Is _, Is _, Is _, Is _, Is _, Is _, Is _, Is _, Is _, Is _, Is _, Is _, Is _, Is _, Is _, Is _, Is _] [([(0, none)], none), ([(16, some 0)], none), ([(17, some 1)], none), ([(18, some 2)], none), ([(0, none)], none), ([(20, some 4)], none), ([(21, some 5)], none), ([(22, some 6)], none), ([(0, none)], none), ([(24, some 8)], none), ([(25, some 9)], none), ([(26, some 10)], none), ([(23, some 7), (27, some 11)], none), ([(0, none)], none), ([(29, some 13)], none), ([(30, some 14)], none), ([(31, some 15)], none), ([(32, some 16)], none), ([(28, some 12), (33, some 17)], none), ([(1, none)], none)] [(16, 0), (17, 1), (18, 2), (19, 3), (20, 4), (21, 5), (22, 6), (23, 7), (24, 8), (25, 9), (26, 10), (27, 11), (28, 12), (29, 13), (30, 14), (31, 15), (32, 16), (33, 17), (34, 18), (35, 19)] rfl (by kernel_rfl) (by kernel_rfl) (show Stable Grew _ from ⟨Is.stable _, Is.stable _, Is.stable _, Is.stable _, Is.stable _, Is.stable _, Is.stable _, Is.stable _, Is.stable _, Is.stable _, Is.stable _, Is.stable _, Is.stable _, Is.stable _, Is.stable _, Is.stable _, Is.stable _, Is.stable _, Is.stable _, Is.stable _, trivial⟩)
      · show OpsHold _ _ _ _ _ _ _ _ _
        refine ⟨fun a_ wx hR hD K hK => ?_, ?_⟩
        · have hG : Grew w1 wx := (Grew.drew _).trans hR
          simp [Deps, Dep, at_, Is] at hD
          go_simp
          exact hK _ _ (Grew.refl _) rfl
        refine ⟨fun a_ wx hR hD K hK => ?_, ?_⟩
        · have hG : Grew w1 wx := (Grew.drew _).trans hR
          simp [Deps, Dep, at_, Is] at hD
          go_simp
          exact hK _ _ (Grew.refl _) rfl
        refine ⟨fun a_ wx hR hD K hK => ?_, ?_⟩
        · have hG : Grew w1 wx := (Grew.drew _).trans hR
          simp [Deps, Dep, at_, Is] at hD
          go_simp
          exact hK _ _ (Grew.refl _) rfl
        refine ⟨fun a_ wx hR hD K hK => ?_, ?_⟩
        · have hG : Grew w1 wx := (Grew.drew _).trans hR
          simp [Deps, Dep, at_, Is] at hD
          have e_ := pw_cell_below hG (pw_cell_below hG_w1 C0.out)
          go_simp
          exact hK _ _ (Grew.refl _) rfl
        refine ⟨fun a_ wx hR hD K hK => ?_, ?_⟩
        · have hG : Grew w1 wx := (Grew.drew _).trans hR
          simp [Deps, Dep, at_, Is] at hD
          go_simp
          exact hK _ _ (Grew.refl _) rfl
        refine ⟨fun a_ wx hR hD K hK => ?_, ?_⟩
        · have hG : Grew w1 wx := (Grew.drew _).trans hR
          simp [Deps, Dep, at_, Is] at hD
          go_simp
          exact hK _ _ (Grew.refl _) rfl
        refine ⟨fun a_ wx hR hD K hK => ?_, ?_⟩
        · have hG : Grew w1 wx := (Grew.drew _).trans hR
          simp [Deps, Dep, at_, Is] at hD
          go_simp
          exact hK _ _ (Grew.refl _) rfl
        refine ⟨fun a_ wx hR hD K hK => ?_, ?_⟩
        · have hG : Grew w1 wx := (Grew.drew _).trans hR
          simp [Deps, Dep, at_, Is] at hD
          have e_ := pw_cell_below hG (pw_cell_below hG_w1 C1.out)
          go_simp
          exact hK _ _ (Grew.refl _) rfl
        refine ⟨fun a_ wx hR hD K hK => ?_, ?_⟩
        · have hG : Grew w1 wx := (Grew.drew _).trans hR
          simp [Deps, Dep, at_, Is] at hD
          go_simp
          exact hK _ _ (Grew.refl _) rfl
        refine ⟨fun a_ wx hR hD K hK => ?_, ?_⟩
        · have hG : Grew w1 wx := (Grew.drew _).trans hR
          simp [Deps, Dep, at_, Is] at hD
          go_simp
          exact hK _ _ (Grew.refl _) rfl
        refine ⟨fun a_ wx hR hD K hK => ?_, ?_⟩
        · have hG : Grew w1 wx := (Grew.drew _).trans hR
          simp [Deps, Dep, at_, Is] at hD
          go_simp
          exact hK _ _ (Grew.refl _) rfl
        refine ⟨fun a_ wx hR hD K hK => ?_, ?_⟩
        · have hG : Grew w1 wx := (Grew.drew _).trans hR
          simp [Deps, Dep, at_, Is] at hD
          have e_ := pw_cell_below hG (pw_cell_below hG_w1 C2.out)
          go_simp
          exact hK _ _ (Grew.refl _) rfl
        refine ⟨fun a_ wx hR hD K hK => ?_, ?_⟩
        · have hG : Grew w1 wx := (Grew.drew _).trans hR
          simp [Deps, Dep, at_, Is] at hD
          obtain ⟨hd0, hd1⟩ := hD
          go_simp
          exact hK _ _ (Grew.refl _) rfl
        refine ⟨fun a_ wx hR hD K hK => ?_, ?_⟩
        · have hG : Grew w1 wx := (Grew.drew _).trans hR
          simp [Deps, Dep, at_, Is] at hD
          go_simp
          exact hK _ _ (Grew.refl _) rfl
        refine ⟨fun a_ wx hR hD K hK => ?_, ?_⟩
        · have hG : Grew w1 wx := (Grew.drew _).trans hR
          simp [Deps, Dep, at_, Is] at hD
          go_simp
          exact hK _ _ (Grew.refl _) rfl
        refine ⟨fun a_ wx hR hD K hK => ?_, ?_⟩
        · have hG : Grew w1 wx := (Grew.drew _).trans hR
          simp [Deps, Dep, at_, Is] at hD
          go_simp
          exact hK _ _ (Grew.refl _) rfl
        refine ⟨fun a_ wx hR hD K hK => ?_, ?_⟩
        · have hG : Grew w1 wx := (Grew.drew _).trans hR
          simp [Deps, Dep, at_, Is] at hD
          have e_ := pw_cell_below hG (pw_cell_below hG_w1 C0.out)
          go_simp
          exact hK _ _ (Grew.refl _) rfl
        refine ⟨fun a_ wx hR hD K hK => ?_, ?_⟩
        · have hG : Grew w1 wx := (Grew.drew _).trans hR
          simp [Deps, Dep, at_, Is] at hD
          go_simp
          exact hK _ _ (Grew.refl _) rfl
        refine ⟨fun a_ wx hR hD K hK => ?_, ?_⟩
        · have hG : Grew w1 wx := (Grew.drew _).trans hR
          simp [Deps, Dep, at_, Is] at hD
          obtain ⟨hd0, hd1⟩ := hD
          go_simp
          exact hK _ _ (Grew.refl _) rfl
        refine ⟨fun a_ wx hR hD K hK => ?_, ?_⟩
        · have hG : Grew w1 wx := (Grew.drew _).trans hR
          simp [Deps, Dep, at_, Is] at hD
          go_simp
          exact hK _ _ (Grew.refl _) rfl
        trivial
      · show EndHold _ _ _ _ _ _ _
        refine end_all (xs := [_, _, _, _, _, _, _, _, _, _, _, _, _, _, _, _, _, _, _, _]) ⟨rfl, rfl, rfl, rfl, rfl, rfl, rfl, rfl, rfl, rfl, rfl, rfl, rfl, rfl, rfl, rfl, rfl, rfl, rfl, rfl, trivial⟩ ?_
        rintro w2 hR1 -
        refine ⟨?_⟩
        have hG_w2 : Grew w1 w2 := (Grew.drew _).trans hR1
        clear hR1
        simp only [Act.put, List.setIfInBounds_toArray, List.set_cons_succ, List.set_cons_zero, dropN, putEach]
        have h := H.out
        have hgw : Grew w w2 := hG_w1.trans hG_w2
        have hp := HP.out
        have hbl := h.len
        have hrow := h.row.grew hgw
        have hcw := h.cells.grew hgw
        have r1 : w2.cell? ⟨gb, p, none⟩ = some (.int .u8 (b.getD p 0)) := by rw [hrow.at_]; simp [nums, hbl, e2]
        have r2 := hrow.fz p
        obtain ⟨W2, hW2⟩ : ∃ W2, W2 = w2.setCell ⟨gb, p, none⟩ (.int .u8 c) := ⟨_, rfl⟩
        have hrow2 := hrow.set p (.int .u8 c)
        have hcw2 := hcw.far (p := ⟨gb, p, none⟩) h.ne (.int .u8 c)
        obtain ⟨W3, hW3⟩ : ∃ W3, W3 = W2.setCell ⟨g, 2, none⟩ (.int .i64 ((s.length : Int) + 1)) := ⟨_, rfl⟩
        rw [← hW2] at hrow2 hcw2
        have hrow3 := hrow2.far (p := ⟨g, 2, none⟩) h.ne.symm (.int .i64 ((s.length : Int) + 1))
        have hcw3 := hcw2.set 2 (.int .i64 ((s.length : Int) + 1))
        rw [← hW3] at hrow3 hcw3
        have hu3 : Upd (WS g gb) w W3 := by
          rw [hW3, hW2]
          exact ((Upd.of_grew hgw).set (p := ⟨gb, p, none⟩) (.inl (.inr rfl)) _).set (p := ⟨g, 2, none⟩) (.inl (.inl rfl)) _
        have q2 := hcw2.at_ 2
        have f2 := hcw2.fz 2
        rw [hW2] at q2 f2 hW3
        simp only [List.getElem?_cons_succ, List.getElem?_cons_zero] at q2
        have HW3 := Lib.hid hW3
        have R1 := Lib.hid hrow3
        have R2 := Lib.hid hcw3
        have R3 := Lib.hid hbl
        have R4 := Lib.hid (hcw3.at_ 3)
        clear hrow hcw h hbl hp e1 e3 hrow2 hcw2 hrow3 hcw3 hW2 hW3
        go_wp2
        rw [← HW3.out]
        have wr := weak_range s
        have e4 : IntKind.u32.wrap c = c := u32_wraps c hc0 (by omega)
        apply region_grew [Is _, Is _, Is _, Is _, Is _, Is _, Is _, Is _, Is _, Is _, Is _] [([(0, none)], none), ([(0, none)], none), ([(45, some 1)], none), ([(46, some 2)], none), ([(47, some 3)], none), ([(1, none)], none), ([(49, some 5)], none), ([(1, none)], none), ([(51, some 7)], none), ([(50, some 6), (52, some 8)], none), ([(48, some 4), (53, some 9)], none)] [(44, 0), (45, 1), (46, 2), (47, 3), (48, 4), (49, 5), (50, 6), (51, 7), (52, 8), (53, 9), (54, 10)] rfl (by kernel_rfl) (by kernel_rfl) (show Stable Grew _ from ⟨Is.stable _, Is.stable _, Is.stable _, Is.stable _, Is.stable _, Is.stable _, Is.stable _, Is.stable _, Is.stable _, Is.stable _, Is.stable _, trivial⟩)
        · show OpsHold _ _ _ _ _ _ _ _ _
          refine ⟨fun a_ wx hR hD K hK => ?_, ?_⟩
          · have hG : Grew W3 wx := (Grew.drew _).trans hR
            simp [Deps, Dep, at_, Is] at hD
            go_simp
            exact hK _ _ (Grew.refl _) rfl
          refine ⟨fun a_ wx hR hD K hK => ?_, ?_⟩
          · have hG : Grew W3 wx := (Grew.drew _).trans hR
            simp [Deps, Dep, at_, Is] at hD
            go_simp
            exact hK _ _ (Grew.refl _) rfl
          refine ⟨fun a_ wx hR hD K hK => ?_, ?_⟩
          · have hG : Grew W3 wx := (Grew.drew _).trans hR
            simp [Deps, Dep, at_, Is] at hD
            go_simp
            exact hK _ _ (Grew.refl _) rfl
          refine ⟨fun a_ wx hR hD K hK => ?_, ?_⟩
          · have hG : Grew W3 wx := (Grew.drew _).trans hR
            simp [Deps, Dep, at_, Is] at hD
            go_simp
            exact hK _ _ (Grew.refl _) rfl
          refine ⟨fun a_ wx hR hD K hK => ?_, ?_⟩
          · have hG : Grew W3 wx := (Grew.drew _).trans hR
            simp [Deps, Dep, at_, Is] at hD
            have e_ := pw_cell_below hG R4.out
            go_simp
            exact hK _ _ (Grew.refl _) rfl
          refine ⟨fun a_ wx hR hD K hK => ?_, ?_⟩
          · have hG : Grew W3 wx := (Grew.drew _).trans hR
            simp [Deps, Dep, at_, Is] at hD
            go_simp
            exact hK _ _ (Grew.refl _) rfl
          refine ⟨fun a_ wx hR hD K hK => ?_, ?_⟩
          · have hG : Grew W3 wx := (Grew.drew _).trans hR
            simp [Deps, Dep, at_, Is] at hD
            go_simp
            exact hK _ _ (Grew.refl _) rfl
          refine ⟨fun a_ wx hR hD K hK => ?_, ?_⟩
          · have hG : Grew W3 wx := (Grew.drew _).trans hR
            simp [Deps, Dep, at_, Is] at hD
            go_simp
            exact hK _ _ (Grew.refl _) rfl
          refine ⟨fun a_ wx hR hD K hK => ?_, ?_⟩
          · have hG : Grew W3 wx := (Grew.drew _).trans hR
            simp [Deps, Dep, at_, Is] at hD
            go_simp
            exact hK _ _ (Grew.refl _) rfl
          refine ⟨fun a_ wx hR hD K hK => ?_, ?_⟩
          · have hG : Grew W3 wx := (Grew.drew _).trans hR
            simp [Deps, Dep, at_, Is] at hD
            obtain ⟨hd0, hd1⟩ := hD
            go_simp
            have hcn := make16_c c c wx hc0 (by omega)
            with_reducible refine hcn.mono ?_
            clear hcn
            rintro e wy ⟨v, rfl, hv, hg⟩
            exact hK _ _ hg hv
          refine ⟨fun a_ wx hR hD K hK => ?_, ?_⟩
          · have hG : Grew W3 wx := (Grew.drew _).trans hR
            simp [Deps, Dep, at_, Is] at hD
            obtain ⟨hd0, hd1⟩ := hD
            go_simp
            have hcn := join_c (weak s) (c % 65536 + 65536 * (c % 65536)) 1 wx wr.1 wr.2 (by omega) (by omega)
            with_reducible refine hcn.mono ?_
            clear hcn
            rintro e wy ⟨v, rfl, hv, hg⟩
            exact hK _ _ hg hv
          trivial
        · show EndHold _ _ _ _ _ _ _
          refine end_all (xs := [_, _, _, _, _, _, _, _, _, _, _]) ⟨rfl, rfl, rfl, rfl, rfl, rfl, rfl, rfl, rfl, rfl, rfl, trivial⟩ ?_
          rintro w4 hR1 -
          refine ⟨?_⟩
          have hG_w4 : Grew W3 w4 := (Grew.drew _).trans hR1
          clear hR1
          simp only [Act.put, List.setIfInBounds_toArray, List.set_cons_succ, List.set_cons_zero, dropN, putEach]
          have hrow4 := R1.out.grew hG_w4
          have hcw4 := R2.out.grew hG_w4
          have q3 := hcw4.at_ 3
          have f3 := hcw4.fz 3
          have hend := hcw4.set 3 (.int .u32 (join (weak s) (c % 65536 + 65536 * (c % 65536)) 1))
          have hrow5 := hrow4.far (p := ⟨g, 3, none⟩) H.out.ne.symm (.int .u32 (join (weak s) (c % 65536 + 65536 * (c % 65536)) 1))
          have E := Lib.hid hend
          have E2 := Lib.hid hrow5
          clear hrow4 hcw4 hend hrow5
          go_wp2
          refine bodyPost_ret (results_none rfl _ _ _) rfl ?_
          have h := H.out
          refine ⟨_, rfl, ⟨rfl, a, b.set p c, h.ne, ?_, ?_, by rw [List.length_set]; exact h.len, ?_, h.small, ?_⟩, ?_⟩
          · have := E.out
            rw [lastL_short (by simp; omega), ← weak_put]
            simpa using this
          · have := E2.out
            simpa [nums, List.map_set] using this
          · rw [lastL_short (by simp; omega)]
            have := h.ring.room (by rw [h.len]; exact hroom) c
            rw [h.len] at this
            rw [HP.out]
            exact this
          · intro x hx
            rw [lastL_short (by simp; omega)] at hx
            rcases List.mem_append.1 hx with hx | hx
            · exact h.bytes x hx
            · simp at hx; omega
          · exact (hu3.trans (Upd.of_grew hG_w4)).set (.inl (.inl rfl)) _
  · obtain rfl : s.length = size := by omega
    have d1 : decide (s.length < s.length) = false := decide_eq_false (by omega)
    have hs0 : 0 < s.length := by omega
    have z0 : ¬ s.length = 0 := by omega
    have k0 : (0 : Int) ≤ (a : Int) := by omega
    have k1 : (a : Int) < (s.length : Int) := by omega
    have k2 : a < s.length := hlt
    have e1 : (((a : Int) + 1).tmod (s.length : Int)) = (((a + 1) % s.length : Nat) : Int) := by
      rw [show ((a : Int) + 1) = ((a + 1 : Nat) : Int) from by omega]; rfl
    have e3 : IntKind.i64.wrap ((a : Int) + 1) = (a : Int) + 1 := IntWalk.i64_in _ (by omega)
    have E1 := Lib.hid e1
    have E3 := Lib.hid e3
    clear e1 e3
    have wr := weak_range s
    have C4 := Lib.hid (show w.cell? ⟨gb, a, none⟩ = some (.int .u8 (s.getD 0 0)) by
      rw [H.out.row.at_, ← H.out.ring.get0 hs0]
      have := H.out.len
      simp [nums, this, hlt])
    have hy := H.out.bytes (s.getD 0 0) (by rw [List.getD_eq_getElem?_getD, List.getElem?_eq_getElem hs0]; exact List.getElem_mem hs0)
    obtain ⟨y, hyy⟩ : ∃ y, y = s.getD 0 0 := ⟨_, rfl⟩
    rw [← hyy] at C4 hy
    have HY := Lib.hid hyy
    clear hyy
    go_enter Try.func26, Try.ntmps26
    go_wp2
    apply region_grew [Is _, Is _, Is _, Is _, Is _, Is _, Is _, Is _, Is _] [([(0, none)], none), ([(6, some 0)], none), ([(7, some 1)], none), ([(8, some 2)], none), ([(0, none)], none), ([(10, some 4)], none), ([(11, some 5)], none), ([(12, some 6)], none), ([(13, some 7)], none)] [(6, 0), (7, 1), (8, 2), (9, 3), (10, 4), (11, 5), (12, 6), (13, 7), (14, 8)] rfl (by kernel_rfl) (by kernel_rfl) (show Stable Grew _ from ⟨Is.stable _, Is.stable _, Is.stable _, Is.stable _, Is.stable _, Is.stable _, Is.stable _, Is.stable _, Is.stable _, trivial⟩)
    · show OpsHold _ _ _ _ _ _ _ _ _
      refine ⟨fun a_ wx hR hD K hK => ?_, ?_⟩
      · have hG : Grew w wx := (Grew.drew _).trans hR
        simp [Deps, Dep, at_, Is] at hD
        go_simp
        exact hK _ _ (Grew.refl _) rfl
      refine ⟨fun a_ wx hR hD K hK => ?_, ?_⟩
      · have hG : Grew w wx := (Grew.drew _).trans hR
        simp [Deps, Dep, at_, Is] at hD
        go_simp
        exact hK _ _ (Grew.refl _) rfl
      refine ⟨fun a_ wx hR hD K hK => ?_, ?_⟩
      · have hG : Grew w wx := (Grew.drew _).trans hR
        simp [Deps, Dep, at_, Is] at hD
        go_simp
        exact hK _ _ (Grew.refl _) rfl
      refine ⟨fun a_ wx hR hD K hK => ?_, ?_⟩
      · have hG : Grew w wx := (Grew.drew _).trans hR
        simp [Deps, Dep, at_, Is] at hD
        have e_ := pw_cell_below hG C2.out
        go_simp
        exact hK _ _ (Grew.refl _) rfl
      refine ⟨fun a_ wx hR hD K hK => ?_, ?_⟩
      · have hG : Grew w wx := (Grew.drew _).trans hR
        simp [Deps, Dep, at_, Is] at hD
        go_simp
        exact hK _ _ (Grew.refl _) rfl
      refine ⟨fun a_ wx hR hD K hK => ?_, ?_⟩
      · have hG : Grew w wx := (Grew.drew _).trans hR
        simp [Deps, Dep, at_, Is] at hD
        go_simp
        exact hK _ _ (Grew.refl _) rfl
      refine ⟨fun a_ wx hR hD K hK => ?_, ?_⟩
      · have hG : Grew w wx := (Grew.drew _).trans hR
        simp [Deps, Dep, at_, Is] at hD
        go_simp
        exact hK _ _ (Grew.refl _) rfl
      refine ⟨fun a_ wx hR hD K hK => ?_, ?_⟩
      · have hG : Grew w wx := (Grew.drew _).trans hR
        simp [Deps, Dep, at_, Is] at hD
        have e_ := pw_cell_below hG C0.out
        go_simp
        exact hK _ _ (Grew.refl _) rfl
      refine ⟨fun a_ wx hR hD K hK => ?_, ?_⟩
      · have hG : Grew w wx := (Grew.drew _).trans hR
        simp [Deps, Dep, at_, Is] at hD
        go_simp
        exact hK _ _ (Grew.refl _) rfl
      trivial
    · show EndHold _ _ _ _ _ _ _
      refine end_all (xs := [_, _, _, _, _, _, _, _, _]) ⟨rfl, rfl, rfl, rfl, rfl, rfl, rfl, rfl, rfl, trivial⟩ ?_
      rintro w1 hR1 -
      refine ⟨?_⟩
      have hG_w1 : Grew w w1 := (Grew.drew _).trans hR1
      clear hR1
      simp only [Act.put, List.setIfInBounds_toArray, List.set_cons_succ, List.set_cons_zero, dropN, putEach]
      go_wp2
      apply region_grew [Is _, Is _, Is _, Is _, Is _, Is _, Is _, Is _, Is _, Is _, Is _, Is _, Is _, Is _, Is _, Is _, Is _, Is _, Is _, Is _, Is _] [([(0, none)], none), ([(0, none)], none), ([(58, some 1)], none), ([(59, some 2)], none), ([(60, some 3)], none), ([(0, none)], none), ([(62, some 5)], none), ([(63, some 6)], none), ([(64, some 7)], none), ([(0, none)], none), ([(66, some 9)], none), ([(67, some 10)], none), ([(68, some 11)], none), ([(0, none)], none), ([(70, some 13)], none), ([(71, some 14)], none), ([(72, some 15)], none), ([(69, some 12), (73, some 16)], none), ([(74, some 17)], none), ([(1, none)], none), ([(61, some 4), (65, some 8), (75, some 18), (76, some 19)], none)] [(57, 0), (58, 1), (59, 2), (60, 3), (61, 4), (62, 5), (63, 6), (64, 7), (65, 8), (66, 9), (67, 10), (68, 11), (69, 12), (70, 13), (71, 14), (72, 15), (73, 16), (74, 17), (75, 18), (76, 19), (77, 20)] rfl (by kernel_rfl) (by kernel_rfl) (show Stable Grew _ from ⟨Is.stable _, Is.stable _, Is.stable _, Is.stable _, Is.stable _, Is.stable _, Is.stable _, Is.stable _, Is.stable _, Is.stable _, Is.stable _, Is.stable _, Is.stable _, Is.stable _, Is.stable _, Is.stable _, Is.stable _, Is.stable _, Is.stable _, Is.stable _, Is.stable _, trivial⟩)
      · show OpsHold _ _ _ _ _ _ _ _ _
        refine ⟨fun a_ wx hR hD K hK => ?_, ?_⟩
        · have hG : Grew w1 wx := (Grew.drew _).trans hR
          simp [Deps, Dep, at_, Is] at hD
          go_simp
          exact hK _ _ (Grew.refl _) rfl
        refine ⟨fun a_ wx hR hD K hK => ?_, ?_⟩
        · have hG : Grew w1 wx := (Grew.drew _).trans hR
          simp [Deps, Dep, at_, Is] at hD
          go_simp
          exact hK _ _ (Grew.refl _) rfl
        refine ⟨fun a_ wx hR hD K hK => ?_, ?_⟩
        · have hG : Grew w1 wx := (Grew.drew _).trans hR
          simp [Deps, Dep, at_, Is] at hD
          go_simp
          exact hK _ _ (Grew.refl _) rfl
        refine ⟨fun a_ wx hR hD K hK => ?_, ?_⟩
        · have hG : Grew w1 wx := (Grew.drew _).trans hR
          simp [Deps, Dep, at_, Is] at hD
          go_simp
          exact hK _ _ (Grew.refl _) rfl
        refine ⟨fun a_ wx hR hD K hK => ?_, ?_⟩
        · have hG : Grew w1 wx := (Grew.drew _).trans hR
          simp [Deps, Dep, at_, Is] at hD
          have e_ := pw_cell_below hG (pw_cell_below hG_w1 C3.out)
          go_simp
          exact hK _ _ (Grew.refl _) rfl
        refine ⟨fun a_ wx hR hD K hK => ?_, ?_⟩
        · have hG : Grew w1 wx := (Grew.drew _).trans hR
          simp [Deps, Dep, at_, Is] at hD
          go_simp
          exact hK _ _ (Grew.refl _) rfl
        refine ⟨fun a_ wx hR hD K hK => ?_, ?_⟩
        · have hG : Grew w1 wx := (Grew.drew _).trans hR
          simp [Deps, Dep, at_, Is] at hD
          go_simp
          exact hK _ _ (Grew.refl _) rfl
        refine ⟨fun a_ wx hR hD K hK => ?_, ?_⟩
        · have hG : Grew w1 wx := (Grew.drew _).trans hR
          simp [Deps, Dep, at_, Is] at hD
          go_simp
          exact hK _ _ (Grew.refl _) rfl
        refine ⟨fun a_ wx hR hD K hK => ?_, ?_⟩
        · have hG : Grew w1 wx := (Grew.drew _).trans hR
          simp [Deps, Dep, at_, Is] at hD
          have e_ := pw_cell_below hG (pw_cell_below hG_w1 C2.out)
          go_simp
          exact hK _ _ (Grew.refl _) rfl
        refine ⟨fun a_ wx hR hD K hK => ?_, ?_⟩
        · have hG : Grew w1 wx := (Grew.drew _).trans hR
          simp [Deps, Dep, at_, Is] at hD
          go_simp
          exact hK _ _ (Grew.refl _) rfl
        refine ⟨fun a_ wx hR hD K hK => ?_, ?_⟩
        · have hG : Grew w1 wx := (Grew.drew _).trans hR
          simp [Deps, Dep, at_, Is] at hD
          go_simp
          exact hK _ _ (Grew.refl _) rfl
        refine ⟨fun a_ wx hR hD K hK => ?_, ?_⟩
        · have hG : Grew w1 wx := (Grew.drew _).trans hR
          simp [Deps, Dep, at_, Is] at hD
          go_simp
          exact hK _ _ (Grew.refl _) rfl
        refine ⟨fun a_ wx hR hD K hK => ?_, ?_⟩
        · have hG : Grew w1 wx := (Grew.drew _).trans hR
          simp [Deps, Dep, at_, Is] at hD
          have e_ := pw_cell_below hG (pw_cell_below hG_w1 C0.out)
          go_simp
          exact hK _ _ (Grew.refl _) rfl
        refine ⟨fun a_ wx hR hD K hK => ?_, ?_⟩
        · have hG : Grew w1 wx := (Grew.drew _).trans hR
          simp [Deps, Dep, at_, Is] at hD
          go_simp
          exact hK _ _ (Grew.refl _) rfl
        refine ⟨fun a_ wx hR hD K hK => ?_, ?_⟩
        · have hG : Grew w1 wx := (Grew.drew _).trans hR
          simp [Deps, Dep, at_, Is] at hD
          go_simp
          exact hK _ _ (Grew.refl _) rfl
        refine ⟨fun a_ wx hR hD K hK => ?_, ?_⟩
        · have hG : Grew w1 wx := (Grew.drew _).trans hR
          simp [Deps, Dep, at_, Is] at hD
          go_simp
          exact hK _ _ (Grew.refl _) rfl
        refine ⟨fun a_ wx hR hD K hK => ?_, ?_⟩
        · have hG : Grew w1 wx := (Grew.drew _).trans hR
          simp [Deps, Dep, at_, Is] at hD
          have e_ := pw_cell_below hG (pw_cell_below hG_w1 C1.out)
          go_simp
          exact hK _ _ (Grew.refl _) rfl
        refine ⟨fun a_ wx hR hD K hK => ?_, ?_⟩
        · have hG : Grew w1 wx := (Grew.drew _).trans hR
          simp [Deps, Dep, at_, Is] at hD
          obtain ⟨hd0, hd1⟩ := hD
          go_simp
          exact hK _ _ (Grew.refl _) rfl
        refine ⟨fun a_ wx hR hD K hK => ?_, ?_⟩
        · have hG : Grew w1 wx := (Grew.drew _).trans hR
          simp [Deps, Dep, at_, Is] at hD
          have e_ := pw_cell_below hG (pw_cell_below hG_w1 C4.out)
          go_simp
          exact hK _ _ (Grew.refl _) rfl
        refine ⟨fun a_ wx hR hD K hK => ?_, ?_⟩
        · have hG : Grew w1 wx := (Grew.drew _).trans hR
          simp [Deps, Dep, at_, Is] at hD
          go_simp
          exact hK _ _ (Grew.refl _) rfl
        refine ⟨fun a_ wx hR hD K hK => ?_, ?_⟩
        · have hG : Grew w1 wx := (Grew.drew _).trans hR
          simp [Deps, Dep, at_, Is] at hD
          obtain ⟨hd0, hd1, hd2, hd3⟩ := hD
          go_simp
          have hcn := next_c (weak s) s.length y c wx wr.1 wr.2 hy.1 hy.2 hc0 hc1
          with_reducible refine hcn.mono ?_
          clear hcn
          rintro e wy ⟨v, rfl, hv, hg⟩
          exact hK _ _ hg hv
        trivial
      · show EndHold _ _ _ _ _ _ _
        refine end_all (xs := [_, _, _, _, _, _, _, _, _, _, _, _, _, _, _, _, _, _, _, _, _]) ⟨rfl, rfl, rfl, rfl, rfl, rfl, rfl, rfl, rfl, rfl, rfl, rfl, rfl, rfl, rfl, rfl, rfl, rfl, rfl, rfl, rfl, trivial⟩ ?_
        rintro w2 hR1 -
        refine ⟨?_⟩
        have hG_w2 : Grew w1 w2 := (Grew.drew _).trans hR1
        clear hR1
        simp only [Act.put, List.setIfInBounds_toArray, List.set_cons_succ, List.set_cons_zero, dropN, putEach]
        have h := H.out
        have hgw : Grew w w2 := hG_w1.trans hG_w2
        have hrow := h.row.grew hgw
        have hcw := h.cells.grew hgw
        obtain ⟨W2, hW2⟩ : ∃ W2, W2 = w2.setCell ⟨g, 3, none⟩ (.int .u32 (next (weak s) s.length y c)) := ⟨_, rfl⟩
        have hrow2 := hrow.far (p := ⟨g, 3, none⟩) h.ne.symm (.int .u32 (next (weak s) s.length y c))
        have hcw2 := hcw.set 3 (.int .u32 (next (weak s) s.length y c))
        rw [← hW2] at hrow2 hcw2
        have q3 := hcw.at_ 3
        have f3 := hcw.fz 3
        have hu2 : Upd (WS g gb) w W2 := by
          rw [hW2]
          exact (Upd.of_grew hgw).set (p := ⟨g, 3, none⟩) (.inl (.inl rfl)) _
        have R1 := Lib.hid hrow2
        have R2 := Lib.hid hcw2
        have D0 := Lib.hid (hcw2.at_ 0)
        have D1 := Lib.hid (hcw2.at_ 1)
        have HW2 := Lib.hid hW2
        clear hrow hcw hrow2 hcw2 hW2 h
        go_wp2
        rw [← HW2.out]
        apply region_grew [Is _, Is _, Is _, Is _, Is _, Is _, Is _, Is _, Is _] [([(0, none)], none), ([(80, some 0)], none), ([(81, some 1)], none), ([(82, some 2)], none), ([(0, none)], none), ([(84, some 4)], none), ([(85, some 5)], none), ([(86, some 6)], none), ([(1, none)], none)] [(80, 0), (81, 1), (82, 2), (83, 3), (84, 4), (85, 5), (86, 6), (87, 7), (88, 8)] rfl (by kernel_rfl) (by kernel_rfl) (show Stable Grew _ from ⟨Is.stable _, Is.stable _, Is.stable _, Is.stable _, Is.stable _, Is.stable _, Is.stable _, Is.stable _, Is.stable _, trivial⟩)
        · show OpsHold _ _ _ _ _ _ _ _ _
          refine ⟨fun a_ wx hR hD K hK => ?_, ?_⟩
          · have hG : Grew W2 wx := (Grew.drew _).trans hR
            simp [Deps, Dep, at_, Is] at hD
            go_simp
            exact hK _ _ (Grew.refl _) rfl
          refine ⟨fun a_ wx hR hD K hK => ?_, ?_⟩
          · have hG : Grew W2 wx := (Grew.drew _).trans hR
            simp [Deps, Dep, at_, Is] at hD
            go_simp
            exact hK _ _ (Grew.refl _) rfl
          refine ⟨fun a_ wx hR hD K hK => ?_, ?_⟩
          · have hG : Grew W2 wx := (Grew.drew _).trans hR
            simp [Deps, Dep, at_, Is] at hD
            go_simp
            exact hK _ _ (Grew.refl _) rfl
          refine ⟨fun a_ wx hR hD K hK => ?_, ?_⟩
          · have hG : Grew W2 wx := (Grew.drew _).trans hR
            simp [Deps, Dep, at_, Is] at hD
            have e_ := pw_cell_below hG D0.out
            go_simp
            exact hK _ _ (Grew.refl _) rfl
          refine ⟨fun a_ wx hR hD K hK => ?_, ?_⟩
          · have hG : Grew W2 wx := (Grew.drew _).trans hR
            simp [Deps, Dep, at_, Is] at hD
            go_simp
            exact hK _ _ (Grew.refl _) rfl
          refine ⟨fun a_ wx hR hD K hK => ?_, ?_⟩
          · have hG : Grew W2 wx := (Grew.drew _).trans hR
            simp [Deps, Dep, at_, Is] at hD
            go_simp
            exact hK _ _ (Grew.refl _) rfl
          refine ⟨fun a_ wx hR hD K hK => ?_, ?_⟩
          · have hG : Grew W2 wx := (Grew.drew _).trans hR
            simp [Deps, Dep, at_, Is] at hD
            go_simp
            exact hK _ _ (Grew.refl _) rfl
          refine ⟨fun a_ wx hR hD K hK => ?_, ?_⟩
          · have hG : Grew W2 wx := (Grew.drew _).trans hR
            simp [Deps, Dep, at_, Is] at hD
            have e_ := pw_cell_below hG D1.out
            go_simp
            exact hK _ _ (Grew.refl _) rfl
          refine ⟨fun a_ wx hR hD K hK => ?_, ?_⟩
          · have hG : Grew W2 wx := (Grew.drew _).trans hR
            simp [Deps, Dep, at_, Is] at hD
            go_simp
            exact hK _ _ (Grew.refl _) rfl
          trivial
        · show EndHold _ _ _ _ _ _ _
          refine end_all (xs := [_, _, _, _, _, _, _, _, _]) ⟨rfl, rfl, rfl, rfl, rfl, rfl, rfl, rfl, rfl, trivial⟩ ?_
          rintro w3 hR1 -
          refine ⟨?_⟩
          have hG_w3 : Grew W2 w3 := (Grew.drew _).trans hR1
          clear hR1
          simp only [Act.put, List.setIfInBounds_toArray, List.set_cons_succ, List.set_cons_zero, dropN, putEach]
          have h := H.out
          have hrow := R1.out.grew hG_w3
          have hcw := R2.out.grew hG_w3
          obtain ⟨W3, hW3⟩ : ∃ W3, W3 = w3.setCell ⟨gb, a, none⟩ (.int .u8 c) := ⟨_, rfl⟩
          have hrow2 := hrow.set a (.int .u8 c)
          have hcw2 := hcw.far (p := ⟨gb, a, none⟩) h.ne (.int .u8 c)
          rw [← hW3] at hrow2 hcw2
          have r1 : w3.cell? ⟨gb, a, none⟩ = some (.int .u8 (b.getD a 0)) := by
            have := h.len
            rw [hrow.at_]; simp [nums, this, hlt]
          have r2 := hrow.fz a
          have hu3 : Upd (WS g gb) w W3 := by
            rw [hW3]
            exact (hu2.trans (Upd.of_grew hG_w3)).set (p := ⟨gb, a, none⟩) (.inl (.inr rfl)) _
          have Q1 := Lib.hid hrow2
          have Q2 := Lib.hid hcw2
          have B0 := Lib.hid (hcw2.at_ 0)
          have B1 := Lib.hid (hcw2.at_ 1)
          have HW3 := Lib.hid hW3
          clear hrow hcw hrow2 hcw2 hW3 h
          go_wp2
          rw [← HW3.out]
          have e1 := E1.out
          have e3 := E3.out
          apply region_grew [Is _, Is _, Is _, Is _, Is _, Is _, Is _, Is _, Is _, Is _, Is _, Is _] [([(0, none)], none), ([(0, none)], none), ([(91, some 1)], none), ([(92, some 2)], none), ([(93, some 3)], none), ([(94, some 4)], none), ([(0, none)], none), ([(96, some 6)], none), ([(97, some 7)], none), ([(98, some 8)], none), ([(99, some 9)], none), ([(95, some 5), (100, some 10)], none)] [(90, 0), (91, 1), (92, 2), (93, 3), (94, 4), (95, 5), (96, 6), (97, 7), (98, 8), (99, 9), (100, 10), (101, 11)] rfl (by kernel_rfl) (by kernel_rfl) (show Stable Grew _ from ⟨Is.stable _, Is.stable _, Is.stable _, Is.stable _, Is.stable _, Is.stable _, Is.stable _, Is.stable _, Is.stable _, Is.stable _, Is.stable _, Is.stable _, trivial⟩)
          · show OpsHold _ _ _ _ _ _ _ _ _
            refine ⟨fun a_ wx hR hD K hK => ?_, ?_⟩
            · have hG : Grew W3 wx := (Grew.drew _).trans hR
              simp [Deps, Dep, at_, Is] at hD
              go_simp
              exact hK _ _ (Grew.refl _) rfl
            refine ⟨fun a_ wx hR hD K hK => ?_, ?_⟩
            · have hG : Grew W3 wx := (Grew.drew _).trans hR
              simp [Deps, Dep, at_, Is] at hD
              go_simp
              exact hK _ _ (Grew.refl _) rfl
            refine ⟨fun a_ wx hR hD K hK => ?_, ?_⟩
            · have hG : Grew W3 wx := (Grew.drew _).trans hR
              simp [Deps, Dep, at_, Is] at hD
              go_simp
              exact hK _ _ (Grew.refl _) rfl
            refine ⟨fun a_ wx hR hD K hK => ?_, ?_⟩
            · have hG : Grew W3 wx := (Grew.drew _).trans hR
              simp [Deps, Dep, at_, Is] at hD
              go_simp
              exact hK _ _ (Grew.refl _) rfl
            refine ⟨fun a_ wx hR hD K hK => ?_, ?_⟩
            · have hG : Grew W3 wx := (Grew.drew _).trans hR
              simp [Deps, Dep, at_, Is] at hD
              have e_ := pw_cell_below hG B1.out
              go_simp
              exact hK _ _ (Grew.refl _) rfl
            refine ⟨fun a_ wx hR hD K hK => ?_, ?_⟩
            · have hG : Grew W3 wx := (Grew.drew _).trans hR
              simp [Deps, Dep, at_, Is] at hD
              go_simp
              exact hK _ _ (Grew.refl _) rfl
            refine ⟨fun a_ wx hR hD K hK => ?_, ?_⟩
            · have hG : Grew W3 wx := (Grew.drew _).trans hR
              simp [Deps, Dep, at_, Is] at hD
              go_simp
              exact hK _ _ (Grew.refl _) rfl
            refine ⟨fun a_ wx hR hD K hK => ?_, ?_⟩
            · have hG : Grew W3 wx := (Grew.drew _).trans hR
              simp [Deps, Dep, at_, Is] at hD
              go_simp
              exact hK _ _ (Grew.refl _) rfl
            refine ⟨fun a_ wx hR hD K hK => ?_, ?_⟩
            · have hG : Grew W3 wx := (Grew.drew _).trans hR
              simp [Deps, Dep, at_, Is] at hD
              go_simp
              exact hK _ _ (Grew.refl _) rfl
            refine ⟨fun a_ wx hR hD K hK => ?_, ?_⟩
            · have hG : Grew W3 wx := (Grew.drew _).trans hR
              simp [Deps, Dep, at_, Is] at hD
              have e_ := pw_cell_below hG B0.out
              go_simp
              exact hK _ _ (Grew.refl _) rfl
            refine ⟨fun a_ wx hR hD K hK => ?_, ?_⟩
            · have hG : Grew W3 wx := (Grew.drew _).trans hR
              simp [Deps, Dep, at_, Is] at hD
              go_simp
              exact hK _ _ (Grew.refl _) rfl
            refine ⟨fun a_ wx hR hD K hK => ?_, ?_⟩
            · have hG : Grew W3 wx := (Grew.drew _).trans hR
              simp [Deps, Dep, at_, Is] at hD
              obtain ⟨hd0, hd1⟩ := hD
              go_simp
              exact hK _ _ (Grew.refl _) rfl
            trivial
          · show EndHold _ _ _ _ _ _ _
            refine end_all (xs := [_, _, _, _, _, _, _, _, _, _, _, _]) ⟨rfl, rfl, rfl, rfl, rfl, rfl, rfl, rfl, rfl, rfl, rfl, rfl, trivial⟩ ?_
            rintro w4 hR1 -
            refine ⟨?_⟩
            have hG_w4 : Grew W3 w4 := (Grew.drew _).trans hR1
            clear hR1
            simp only [Act.put, List.setIfInBounds_toArray, List.set_cons_succ, List.set_cons_zero, dropN, putEach]
            have h := H.out
            have hrow := Q1.out.grew hG_w4
            have hcw := Q2.out.grew hG_w4
            have r1 := hcw.at_ 1
            have r2 := hcw.fz 1
            have hend := hcw.set 1 (.int .i64 ((a + 1) % s.length : Nat))
            have hrow5 := hrow.far (p := ⟨g, 1, none⟩) h.ne.symm (.int .i64 ((a + 1) % s.length : Nat))
            have E := Lib.hid hend
            have E2 := Lib.hid hrow5
            clear hrow hcw hend hrow5 h
            go_wp2
            go_end0
            have h := H.out
            refine ⟨_, rfl, ⟨rfl, (a + 1) % s.length, b.set a c, h.ne, ?_, ?_, by rw [List.length_set]; exact h.len, ?_, h.small, ?_⟩, ?_⟩
            · have := E.out
              rw [HY.out, weak_roll s c hs0] at this
              rw [lastL_full c rfl hs0, List.length_append, List.length_drop, List.length_singleton, Nat.sub_add_cancel hs0]
              simpa using this
            · have := E2.out
              simpa [nums, List.map_set] using this
            · rw [lastL_full c rfl hs0]
              have := h.ring.full h.len.symm c
              rw [h.len] at this
              exact this
            · intro x hx
              rw [lastL_full c rfl hs0] at hx
              rcases List.mem_append.1 hx with hx | hx
              · exact h.bytes x (List.mem_of_mem_drop hx)
              · simp at hx; omega
            · exact (hu3.trans (Upd.of_grew hG_w4)).set (.inl (.inl rfl)) _
theorem put_nil (c : Int) (w : World) : Calls Try.prog 26 #[.pointer none, .int .u8 c] w (Tells w (Is (.tuple #[]))) := by
  go_enter Try.func26, Try.ntmps26
  go_wp2
  refine bodyPost_ret (results_none rfl _ _ _) rfl ?_
  exact ⟨_, rfl, rfl, Grew.refl _⟩
theorem clear_nil (w : World) : Calls Try.prog 29 #[.pointer none] w (Tells w (Is (.tuple #[]))) := by
  go_enter Try.func29, Try.ntmps29
  go_wp2
  go_end0
  exact ⟨_, rfl, rfl, Grew.refl _⟩
theorem wsum_nil (w : World) : Calls Try.prog 27 #[.pointer none] w (Tells w (Is (.tuple #[.int .u32 0, .bool false]))) := by
  go_enter Try.func27, Try.ntmps27
  go_wp2
  go_ret2
  exact ⟨_, rfl, rfl, Grew.refl _⟩
end Go.Proofs.Ytaeobiilihklhaa.F
