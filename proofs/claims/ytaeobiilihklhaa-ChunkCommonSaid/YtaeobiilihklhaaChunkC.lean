/- The functions of the package chunk: what New, Left and End come to, for a cutter whose parts lie in blocks of its own. -/
import Derived.Test.YtaeobiilihklhaaWin
import Derived.Test.YtaeobiilihklhaaChunkM
import Derived.Test.YtaeobiilihklhaaF23
import Derived.Test.YtaeobiilihklhaaF28
namespace Go.Proofs.Ytaeobiilihklhaa.F
open Go Go.RowKit Go.Proofs.YtaeobiilihklhaaW.PrintWords Go.Proofs.YtaeobiilihklhaaW.PrintLast Go.Proofs.YtaeobiilihklhaaW.PrintMore Go.Proofs.YtaeobiilihklhaaM Go.Proofs.YtaeobiilihklhaaR
attribute [local go_sem] max2_int min2_int max_two min_two
set_option linter.unusedSimpArgs false
set_option linter.unusedVariables false
set_option maxRecDepth 100000
theorem str_empty (b : List Int) : (strOfNums b).toList.isEmpty = b.isEmpty := by
  rw [ByteArray.toList_eq]
  cases b <;> simp [strOfNums]
instance (lo hi bits : Int) : Decidable (mayM lo hi bits) := by unfold mayM; infer_instance
theorem may_c (lo hi bits : Int) (w : World) : Calls Try.prog 23 #[.agg #[.int .i64 lo, .int .i64 hi, .int .i64 bits]] w (Tells w (Is (.bool (decide (mayM lo hi bits))))) := by
  refine tells_is ((chunk_may.calls lo hi bits _ w ?_).mono fun _ _ ⟨h, k⟩ => ⟨h, k⟩)
  unfold chunk_may.f
  by_cases h : mayM lo hi bits
  · rw [decide_eq_true h]
    obtain ⟨h1, h2, h3, h4, h5⟩ := h
    rw [if_pos h1, if_pos h2, if_pos h3, if_pos h4, decide_eq_true h5]
  · rw [decide_eq_false h]
    unfold mayM at h
    repeat' split
    all_goals first | rfl | (congr 1; exact decide_eq_false (by omega))
theorem marked_f (n bits : Int) (h0 : 0 ≤ n) (h1 : n < 4294967296) : chunk_marked.f n bits = some (markB n bits) := by
  unfold chunk_marked.f markB
  by_cases hb : bits ≤ 0
  · rw [if_pos hb, show min bits.toNat 32 = 0 from by omega]
    congr 1
    symm
    apply decide_eq_true
    have : (n * 2654435761) % 4294967296 < 4294967296 := Int.emod_lt_of_pos _ (by omega)
    simpa using this
  · rw [if_neg hb]
    have e : mn bits 32 = ((min bits.toNat 32 : Nat) : Int) := by unfold mn; split <;> omega
    rw [e]
    obtain ⟨r, hr⟩ : ∃ r, r = min bits.toNat 32 := ⟨_, rfl⟩
    rw [← hr]
    have hr2 : r ≤ 32 := by omega
    rw [show wrap64 (32 - (r : Int)) = ((32 - r : Nat) : Int) from by unfold wrap64; omega, if_pos (by omega)]
    unfold shr
    rw [show min (((32 - r : Nat) : Int)).toNat (IntKind.u32).bits = 32 - r from by simp [IntKind.bits]]
    congr 1
    have hp : (0 : Int) < 2 ^ (32 - r) := by exact Int.pow_pos (by omega)
    have h2 : 0 ≤ (n * 2654435761) % 4294967296 := Int.emod_nonneg _ (by omega)
    generalize (n * 2654435761) % 4294967296 = y at *
    rw [Bool.eq_iff_iff]
    simp only [beq_iff_eq, decide_eq_true_eq]
    constructor
    · intro h
      have := Int.lt_mul_of_ediv_lt (a := y) (b := 1) hp (by omega)
      omega
    · intro h
      exact Int.ediv_eq_zero_of_lt h2 h
theorem marked_c (n bits : Int) (w : World) (h0 : 0 ≤ n) (h1 : n < 4294967296) : Calls Try.prog 28 #[.int .u32 n, .int .i64 bits] w (Tells w (Is (.bool (markB n bits)))) :=
  tells_is ((chunk_marked.calls n bits _ w (marked_f n bits h0 h1)).mono fun _ _ ⟨h, k⟩ => ⟨h, k⟩)
/-- a cutter's blocks, and what it has -/
structure Cut (gc g gb : Nat) (lo hi bits : Int) (s b : List Int) (vb : Value) (B : Nat) (w : World) : Prop where
  n1 : gc ≠ g
  n2 : gc ≠ gb
  n3 : g ≠ gb
  b1 : B ≤ gc
  b2 : B ≤ g
  b3 : B ≤ gb
  cells : Blk w gc 56 [.int .i64 lo, .int .i64 hi, .int .i64 bits, .pointer (some ⟨g, 0, none⟩), vb]
  win : WinB g gb 16 s w
  row : w.ownsRow B 5 1 vb b.length (nums .u8 b)
  far : ∀ k, vb.ownBlock = some k → k ≠ gc ∧ k ≠ g ∧ k ≠ gb
  bytes : ∀ x ∈ b, 0 ≤ x ∧ x < 256
/-- which blocks a cutter may change -/
def CS (gc g gb : Nat) (vb : Value) : Nat → Prop := fun k => k = gc ∨ k = g ∨ k = gb ∨ vb.ownBlock = some k
/-- a cutter, wherever what waits lies by now -/
def CutB (gc g gb : Nat) (lo hi bits : Int) (s b : List Int) (B : Nat) (w0 w : World) (vb : Value) : Prop := ∃ vb', Cut gc g gb lo hi bits s b vb' B w ∧ (∀ k, vb'.ownBlock = some k → vb.ownBlock = some k ∨ w0.heap.size ≤ k)
theorem WinB.lt {g gb size : Nat} {s : List Int} {w : World} (h : WinB g gb size s w) : g < w.heap.size ∧ gb < w.heap.size := by
  obtain ⟨a, b, h⟩ := h
  exact ⟨h.cells.lt, h.row.lt⟩
theorem Cut.grew {gc g gb : Nat} {lo hi bits : Int} {s b : List Int} {vb : Value} {B : Nat} {w w' : World} (h : Cut gc g gb lo hi bits s b vb B w) (hg : Grew w w') : Cut gc g gb lo hi bits s b vb B w' :=
  ⟨h.n1, h.n2, h.n3, h.b1, h.b2, h.b3, h.cells.grew hg, h.win.grew hg, pw_own_below h.row hg, h.far, h.bytes⟩
theorem Cut.upd {gc g gb : Nat} {lo hi bits : Int} {s b : List Int} {vb : Value} {B : Nat} {w w' : World} {S : Nat → Prop} (h : Cut gc g gb lo hi bits s b vb B w) (hu : Upd S w w') (hS : ∀ k, CS gc g gb vb k → ¬ S k) : Cut gc g gb lo hi bits s b vb B w' :=
  ⟨h.n1, h.n2, h.n3, h.b1, h.b2, h.b3, h.cells.upd hu (hS _ (.inl rfl)), h.win.upd hu (hS _ (.inr (.inl rfl))) (hS _ (.inr (.inr (.inl rfl)))), hu.own h.row (fun k hk => hS k (.inr (.inr (.inr hk)))), h.far, h.bytes⟩
def NewCut (B : Nat) (lo hi bits : Int) : World → Value → Prop := fun w' v => ∃ gc g gb, v = .tuple #[.pointer (some ⟨gc, 0, none⟩), .int .i64 0] ∧ Cut gc g gb lo hi bits [] [] (.slice none 0 0) B w'
theorem cnew_c (lo hi bits : Int) (w : World) (hm : mayM lo hi bits) : Calls Try.prog 11 #[.agg #[.int .i64 lo, .int .i64 hi, .int .i64 bits]] w (Tells w (NewCut w.heap.size lo hi bits)) := by
  have d := decide_eq_true hm
  have hc := may_c lo hi bits
  rw [d] at hc
  have HC := Lib.hid hc
  clear hc hm d
  go_enter Try.func11, Try.ntmps11
  go_wp2_with fail
  refine (HC.out _).mono ?_
  rintro e w1 ⟨_, rfl, rfl, hg1⟩
  go_wp2_with fail
  refine (new_c 16 _ (by omega) (by omega)).mono ?_
  rintro e w2 ⟨_, rfl, ⟨g, gb, rfl, hB1, hB2, hne, hwin⟩, hg2⟩
  have hb := (Blk.new w 23 [.int .i64 lo, .int .i64 hi, .int .i64 bits]).grew (Grew.trans hg1 hg2)
  have k0 := hb.at_ 0
  have k1 := hb.at_ 1
  have k2 := hb.at_ 2
  simp only [List.getElem?_cons_succ, List.getElem?_cons_zero] at k0 k1 k2
  have hs1 := hg1.size
  have hs2 := hg2.size
  simp only [World.size_alloc] at hs1
  have hl := hwin.lt
  clear hb
  go_wp2_with fail
  go_ret2
  refine ⟨_, rfl, ⟨w2.heap.size, g, gb, rfl, by omega, by omega, hne, by omega, by omega, by omega, ?_, ?_, own_nil _ _ _ _, fun k hk => by simp [Value.ownBlock] at hk, by simp⟩, (Grew.alloc _ _).trans (hg1.trans (hg2.trans (Grew.alloc _ _)))⟩
  · exact Blk.new w2 _ _
  · exact hwin.grew (Grew.alloc _ _)
theorem cnew_no (lo hi bits : Int) (w : World) (hm : ¬ mayM lo hi bits) : Calls Try.prog 11 #[.agg #[.int .i64 lo, .int .i64 hi, .int .i64 bits]] w (Tells w (Is (.tuple #[.pointer none, .int .i64 1]))) := by
  have d := decide_eq_false hm
  have hc := may_c lo hi bits
  rw [d] at hc
  have HC := Lib.hid hc
  clear hc hm d
  go_enter Try.func11, Try.ntmps11
  go_wp2_with fail
  refine (HC.out _).mono ?_
  rintro e w1 ⟨_, rfl, rfl, hg1⟩
  go_wp2_with fail
  go_ret2
  exact ⟨_, rfl, rfl, (Grew.alloc _ _).trans hg1⟩
theorem left_c {gc g gb : Nat} {lo hi bits : Int} {s b : List Int} {vb : Value} {B : Nat} (w : World) (h : Cut gc g gb lo hi bits s b vb B w) : Calls Try.prog 18 #[.pointer (some ⟨gc, 0, none⟩)] w (Tells w (Is (.int .i64 b.length))) := by
  obtain ⟨A, c, rfl⟩ := own_slice h.row
  have c4 := h.cells.at_ 4
  simp only [List.getElem?_cons_succ, List.getElem?_cons_zero] at c4
  clear h
  go_enter Try.func18, Try.ntmps18
  go_wp2_with fail
  go_ret
  exact ⟨_, rfl, rfl, Grew.refl _⟩
def EndCut (gc g gb : Nat) (lo hi bits : Int) (b : List Int) (vb : Value) (B : Nat) (w : World) : World → Value → Prop := fun w' v => v = .tuple #[.string (strOfNums b), .bool (!b.isEmpty)] ∧ CutB gc g gb lo hi bits [] [] B w w' vb
theorem end_c {gc g gb : Nat} {lo hi bits : Int} {s b : List Int} {vb : Value} {B : Nat} (w : World) (h : Cut gc g gb lo hi bits s b vb B w) : Calls Try.prog 19 #[.pointer (some ⟨gc, 0, none⟩)] w (Does (CS gc g gb vb) w (EndCut gc g gb lo hi bits b vb B w)) := by
  obtain ⟨A, c, rfl, _, hc, hC⟩ := own_C h.row
  have hcv := Kd.C_string (P := Try.prog) (c := c) Try.underlying42 Try.underlying5 Try.underlying9 hC
  have c3 := h.cells.at_ 3
  have c4 := h.cells.at_ 4
  have f4 := h.cells.fz 4
  simp only [List.getElem?_cons_succ, List.getElem?_cons_zero] at c3 c4
  obtain ⟨W1, hW1⟩ : ∃ W1, W1 = w.setCell ⟨gc, 4, none⟩ (.slice A 0 c) := ⟨_, rfl⟩
  have hcl := h.cells.set 4 (.slice A 0 c)
  have hu1 : Upd (CS gc g gb (.slice A b.length c)) w W1 := by rw [hW1]; exact (Upd.refl _ _).set (p := ⟨gc, 4, none⟩) (.inl (.inl rfl)) _
  have hwin := h.win.upd (Upd.set (S := fun k => k = gc) (p := ⟨gc, 4, none⟩) (Upd.refl _ w) (.inl rfl) (.slice A 0 c)) (fun e => h.n1 e.symm) (fun e => h.n2 e.symm)
  have hrow := own_take (m := 0) h.row (by omega)
  have hrow1 := own_setCell hrow (p := ⟨gc, 4, none⟩) (fun e => (h.far gc (by cases A <;> simp [Value.ownBlock] at e ⊢; exact e.symm)).1 rfl) (.slice A 0 c)
  rw [← hW1] at hcl hwin hrow1
  have q3 := hcl.at_ 3
  simp only [List.set_cons_succ, List.set_cons_zero, List.getElem?_cons_succ, List.getElem?_cons_zero] at q3 hcl
  rw [hW1] at q3
  have HW1 := Lib.hid hW1
  have H1 := Lib.hid hcl
  have H2 := Lib.hid hwin
  have H3 := Lib.hid hrow1
  have H := Lib.hid h
  clear hW1 hcl hwin hrow hrow1 h
  go_enter Try.func19, Try.ntmps19
  go_wp2_with fail
  rw [← HW1.out]
  refine (clear_c g gb 16 s _ H2.out).mono ?_
  rintro e w2 ⟨_, rfl, ⟨rfl, hW2⟩, hu2⟩
  go_wp2_with fail
  go_ret2
  have h := H.out
  have hfar := h.far
  have hne : ∀ k, WS g gb k → k = g ∨ k = gb := fun k hk => hk
  refine ⟨_, rfl, ⟨?_, .slice A 0 c, ⟨h.n1, h.n2, h.n3, h.b1, h.b2, h.b3, H1.out.upd hu2 ?_, hW2, hu2.own H3.out ?_, ?_, by simp⟩, ?_⟩, hu1.trans (hu2.mono fun k _ hk => ?_)⟩
  · show Value.tuple #[.string (strOfNums b), .bool (!(strOfNums b).toList.isEmpty)] = _
    rw [str_empty]
  · intro hk; rcases hk with hk | hk; exact h.n1 hk; exact h.n2 hk
  · intro k hk hS
    have := hfar k (by cases A <;> simp [Value.ownBlock] at hk ⊢; exact hk)
    rcases hS with hS | hS
    · exact this.2.1 hS
    · exact this.2.2 hS
  · intro k hk
    exact hfar k (by cases A <;> simp [Value.ownBlock] at hk ⊢; exact hk)
  · intro k hk
    exact .inl (by cases A <;> simp [Value.ownBlock] at hk ⊢; exact hk)
  · rcases hk with hk | hk
    · exact .inr (.inl hk)
    · exact .inr (.inr (.inl hk))
end Go.Proofs.Ytaeobiilihklhaa.F
