/- The row of the law LzShort: for every input the law's call returns true, whatever memory; no condition. Out of the contract LzShort_c. -/
import Derived.Test.YtehbebpemnanoaaSC
import Derived.Laws.OwnMore
import Derived.Test.YtehbebpemnanoaaRows
import Derived.WalkKit
import Derived.ProofKit
import Derived.OpenShut
import Derived.ShutString
import Derived.ChangeOld
import Derived.Below
import Derived.SizedLaws
import Derived.Test.YtehbebpemnanoaaWSized

-- LzShort
namespace Go.Proofs.Ytehbebpemnanoaa.F
open Go Go.RowKit Go.Proofs.YtehbebpemnanoaaW.PrintWords Go.Proofs.YtehbebpemnanoaaW.PrintLast Go.Proofs.YtehbebpemnanoaaW.PrintMore Go.Proofs.YtehbebpemnanoaaM Go.Proofs.YtehbebpemnanoaaR
attribute [local go_sem] max2_int min2_int max_two min_two
set_option linter.unusedSimpArgs false
set_option linter.unusedVariables false
set_option maxRecDepth 100000
theorem make_full (w : World) (n : Nat) (hn : n ≤ 65536) : ∃ w', (Instr.makeSlice 25 (.int .i64 (n : Int)) (.int .i64 (n : Int))).run Try.prog w = .ok (.slice (some ⟨w.heap.size, 0, none⟩) n n) w' ∧ w'.ownsRow w.heap.size 5 1 (.slice (some ⟨w.heap.size, 0, none⟩) n n) n (nums .u8 (List.replicate n 0)) ∧ Grew w w' := by
  obtain ⟨i0, hi, hzz⟩ := Option.map_eq_some_iff.1 info5
  simp only [Prod.mk.injEq] at hzz
  obtain ⟨hz0, hz1, hz2⟩ := hzz
  obtain ⟨w', h1, h2, h3⟩ := run_makeSlice_full (P := Try.prog) (w := w) w.heap.size 25 5 i0 (.int .u8 0) 1 Try.underlying25 hi hz0 hz1 .i64 .i64 n (by omega) (by rw [hz2]; omega) (by unfold maxLen; omega) (Nat.le_refl _)
  refine ⟨w', h1, ?_, (Upd.of_grown h3).grew fun i _ h => by cases h⟩
  have e : (madeCells (Value.int .u8 0).cells (n * 1)).toList = nums .u8 (List.replicate n 0) := by
    rw [Nat.mul_one]
    apply List.ext_getElem?
    intro i
    simp [madeCells, nums, Value.cells]
    by_cases hi : i < n
    · simp [hi, Nat.mod_one]
    · simp [hi]
  rw [e] at h2
  exact h2
set_option maxHeartbeats 4000000 in
theorem LzShort_c (w : World) (x n : Int) (hx : (Lit.int .u8 x).wf = true) (hn : (Lit.int .i64 n).wf = true) :
    Calls Try.prog 5 #[.int .u8 x, .int .i64 n] w (Tells w (Is (.bool true))) := by
  have hxb : 0 ≤ x ∧ x < 256 := by simp [Lit.wf, IntKind.min, IntKind.max, IntKind.bits, IntKind.signed] at hx; omega
  clear hn hx
  by_cases hgo : 0 ≤ n ∧ n ≤ 65536
  · obtain ⟨h0, h6⟩ := hgo
    obtain ⟨m, rfl⟩ := Int.eq_ofNat_of_zero_le h0
    have y1 : decide ((m : Int) < 0) = false := decide_eq_false (by omega)
    have y2 : decide ((65536 : Int) < (m : Int)) = false := decide_eq_false (by omega)
    have y3 : decide (65536 < m) = false := decide_eq_false (by omega)
    have hm6 : m ≤ 65536 := by omega
    obtain ⟨w1, hrun, hown, hg1⟩ := make_full w m hm6
    obtain ⟨g, hg⟩ : ∃ g, g = w.heap.size := ⟨_, rfl⟩
    rw [← hg] at hrun hown
    have HO1 := Lib.hid hown
    have hgl := own_lt hown g rfl
    have HG := Lib.hid hg
    clear hown h0 h6 hg
    go_enter Try.func5, Try.ntmps5
    go_wp2_with fail
    clear hrun
    go_loopw [6] (fun iv wr => ∃ j : Nat, iv = .int .i64 (j : Int) ∧ j ≤ m ∧ wr.ownsRow g 5 1 (.slice (some ⟨g, 0, none⟩) m m) m (nums .u8 (List.replicate j x ++ List.replicate (m - j) 0)) ∧ Upd (fun k => k = g) w1 wr) (fun iv _ => m - (intOf iv).toNat)
    case atStart => exact ⟨0, rfl, Nat.zero_le _, by simpa using HO1.out, Upd.refl _ _⟩
    case round =>
      obtain ⟨j, rfl, hj, hown, hu⟩ := hrel
      by_cases hjl : j < m
      · have b1 : decide ((j : Int) < (m : Int)) = true := decide_eq_true (by omega)
        have b2 : decide (j < m) = true := decide_eq_true hjl
        have i1 : (j : Int) < (m : Int) := by omega
        obtain ⟨q1, f1⟩ := own_atN hown j hjl
        have HO := Lib.hid (own_storeN hown j x)
        have HS := Lib.hid (show (List.replicate j x ++ List.replicate (m - j) (0 : Int)).set j x = List.replicate (j + 1) x ++ List.replicate (m - (j + 1)) 0 from by
          rw [show m - j = (m - (j + 1)) + 1 from by omega, List.replicate_succ]
          apply List.ext_getElem?
          intro i
          rw [List.getElem?_set]
          by_cases h1 : j = i
          · subst h1
            rw [if_pos rfl, if_pos (show j < (List.replicate j x ++ 0 :: List.replicate (m - (j + 1)) (0 : Int)).length by rw [List.length_append, List.length_replicate, List.length_cons]; omega), List.getElem?_append_left (show j < (List.replicate (j + 1) x).length by simp), List.getElem?_replicate, if_pos (by omega)]
          · rw [if_neg h1]
            by_cases h2 : i < j
            · simp [List.getElem?_append, h2, show i < j + 1 from by omega]
            · rw [List.getElem?_append_right (by simp; omega), List.getElem?_append_right (by simp; omega)]
              obtain ⟨d, rfl⟩ : ∃ d, i = j + 1 + d := ⟨i - j - 1, by omega⟩
              simp [show j + 1 + d - j = d + 1 from by omega])
        have hw1 : IntKind.i64.wrap ((j : Int) + 1) = (j : Int) + 1 := by rw [IntWalk.i64_in _ (by omega)]
        clear hown
        go_wp2_with fail
        go_roundw
        case rel => exact ⟨j + 1, by go_num, hjl, by rw [← HS.out]; exact HO.out, hu.trans (Upd.set (S := fun k => k = g) (p := ⟨g, j, none⟩) (Upd.refl _ _) (.inl rfl) _)⟩
        case measure => simp [intOf]; omega
      · obtain rfl : j = m := by omega
        have b1 : decide ((j : Int) < (j : Int)) = false := decide_eq_false (by omega)
        have b2 : decide (j < j) = false := decide_eq_false (by omega)
        rw [Nat.sub_self, List.replicate_zero, List.append_nil] at hown
        obtain ⟨l, hl⟩ : ∃ l, l = List.replicate j x := ⟨_, rfl⟩
        rw [← hl] at hown
        have hll : l.length = j := by rw [hl, List.length_replicate]
        obtain ⟨A', c', hv, _, hc', hC⟩ := own_C hown
        obtain ⟨rfl, -, rfl⟩ := (Value.slice.injEq _ _ _ _ _ _).mp hv
        have hcst : ∀ y ∈ l, y = x := fun y hy => by rw [hl] at hy; exact List.eq_of_mem_replicate hy
        have HP := Lib.hid (pack_c wr (some ⟨g, 0, none⟩) j j l hC hll (Nat.le_refl _) (fun y hy => by rw [hcst y hy]; exact hxb) (by omega))
        have hgw : Grew w wr := ((Upd.of_grew (S := fun k => k = g) hg1).trans hu).grew (fun i hi e => by have := HG.out; omega)
        have HCS := Lib.hid hcst
        have HLL := Lib.hid hll
        clear hown hl hll hv hC hcst hu
        go_wp2_with fail
        refine HP.out.mono ?_
        rintro e w2 ⟨v2, rfl, ⟨L, v0, hch, rfl, hown2⟩, hg2⟩
        obtain ⟨-, -, -, -, -, hsh⟩ := pack_facts hch (by rw [HLL.out]; omega)
        have hsh := hsh x HCS.out
        obtain ⟨A2, c2, rfl⟩ := own_slice hown2
        obtain ⟨pl, hpl⟩ : ∃ pl, pl = (layL l.length L).length := ⟨_, rfl⟩
        rw [HLL.out] at hsh hpl
        rw [HLL.out]
        rw [← hpl] at hsh ⊢
        have x1 : decide ((pl : Int) ≤ 12 + (j : Int) / 20) = true := decide_eq_true (by omega)
        have x2 : (pl : Int) ≤ 12 + (j : Int) / 20 := by omega
        clear hown2 hch hsh hpl
        go_wp2_with fail
        refine (lives_c _).mono ?_
        rintro e w3 ⟨_, rfl, rfl, hg3⟩
        go_wp2_with fail
        go_ret
        exact ⟨_, rfl, rfl, hgw.trans (hg2.trans hg3)⟩
  · have hgo2 : (n < 0 ∧ decide (n < 0) = true) ∨ (¬ n < 0 ∧ decide (n < 0) = false ∧ decide ((65536 : Int) < n) = true) := by
      by_cases h : n < 0
      · exact .inl ⟨h, decide_eq_true h⟩
      · exact .inr ⟨h, decide_eq_false h, decide_eq_true (by omega)⟩
    clear hgo
    rcases hgo2 with ⟨y0, y1⟩ | ⟨y0, y1, y2⟩
    all_goals
      go_enter Try.func5, Try.ntmps5
      go_wp2_with fail
      refine (lives_c _).mono ?_
      rintro e w3 ⟨_, rfl, rfl, hg3⟩
      go_wp2_with fail
      go_ret
      exact ⟨_, rfl, rfl, hg3⟩
end Go.Proofs.Ytehbebpemnanoaa.F

-- RowLzShort
namespace Go.Proofs.Ytehbebpemnanoaa.lzShort
open Go.ChangeShapes Go.WideShapes Go.ChangeAt Go.RowKit
open Go.ChangeMaps (open_string shut_string)
set_option linter.unusedVariables false
set_option linter.unusedSimpArgs false
theorem own : ownKnob Try.prog.godebug = none := by kernel_rfl
theorem laidOut : laidOutB Try.prog = true := by kernel_rfl
set_option maxRecDepth 100000 in
theorem lifted (os : Os) (started : os.Started) (H : Type) (enc : TypeId × Value → H) :
    ReturnsInHanded {} Try.checked os 5 .any (Rows.lzShortSpec.pre6 enc Try.prog Try.f5 Rows.lzShortRow.domain false) (Rows.lzShortSpec.post enc Try.prog Try.f5 false true false false) := by
  refine returnsInHanded_of_change_sized (C := Try.checked) own started (by kernel_rfl) Try.func5
    (ChangeSpec.witness6 (enc := enc) (C := Try.checked) false ⟨#[], #[.int .u8 0, .int .i64 0], []⟩ 8 (by kernel_rfl) (by kernel_rfl) (by kernel_rfl) (by kernel_rfl)) ?_
  intro W base args ds gs before hval0 hW hcnd hsz0 _
  have hsz : (DataW.weightsEach Try.prog (Try.f5.params.toList ++ Rows.lzShortSpec.plain.varTypes Try.prog) (ds ++ gs)).all (· ≤ reachBytes) = true := hsz0
  have hval : ∀ (j : Nat) t v, Try.f5.params[j]? = some t → args[j]? = some v → Value.okWide Try.prog W .any base t v := hval0
  have hW' := hW
  obtain ⟨p, q, hA0, hV, rfl, hfz, hnd⟩ := hW
  have hA : DataW.TrodAll enc Try.prog W 0 (fun _ => true) true Try.f5.params.toList args.toList ds p := hA0
  rw [Try.params5] at hA hval hsz
  obtain ⟨v0, vs0, d0, ds0, p0, q0, hargs, rfl, rfl, h0, r0⟩ := trodAll_cons hA
  obtain ⟨v1, vs1, d1, ds1, p1, q1, rfl, rfl, rfl, h1, r1⟩ := trodAll_cons r0
  obtain ⟨rfl, rfl, rfl⟩ := trodAll_nil r1
  obtain rfl : args = #[v0, v1] := by cases args; simp_all
  obtain ⟨rfl, rfl⟩ := trodVars_none hV
  obtain ⟨a0, rfl, rfl, rfl, w0⟩ := open_int Try.underlying5 (hval 0 5 v0 rfl rfl) h0
  obtain ⟨a1, rfl, rfl, rfl, w1⟩ := open_int Try.underlying3 (hval 1 3 v1 rfl rfl) h1
  clear hA0 hval0 hsz0 hsz
  refine (Go.Proofs.YtehbebpemnanoaaR.is_tells (Go.Proofs.Ytehbebpemnanoaa.F.LzShort_c W a0 a1 w0 w1)).mono fun e W' ⟨he, bel⟩ => ?_
  subst he
  exact ⟨_, rfl, _, _, _, [], _, [], hW', trodAll_mk1 (shut_bool Try.underlying4 _), (trodAll_cons_mk (shut_int Try.underlying5 w0) (trodAll_cons_mk (shut_int Try.underlying3 w1) trodAll_mk0)), rfl, bel.frame _, fun h => by cases h⟩
theorem over : Rows.lzShortRow.holds Try.pinned (OpenSpec.ofChange Rows.lzShortSpec) :=
  OpenClaim.holds_of_wide 5 Try.f5 rfl rfl rfl rfl rfl rfl rfl ⟨rfl, rfl, rfl, rfl, rfl⟩ rfl rfl rfl rfl rfl (by kernel_rfl) Try.func5 (by kernel_rfl)
    (of_decide_eq_true (by kernel_rfl)) (by unfold Func.isWrapper; first | (rw [if_pos (by decide +kernel)]; kernel_rfl) | (rw [if_neg (by decide +kernel)]; exact ⟨rfl, rfl⟩))
    (fun os started H enc _ => lifted os started H enc)
end Go.Proofs.Ytehbebpemnanoaa.lzShort
namespace Go.Proofs.Ytehbebpemnanoaa
/-- The row, under a short name, for the claim. -/
theorem lzShort_holds : Rows.LzShortSaid := lzShort.over
#print axioms lzShort_holds
end Go.Proofs.Ytehbebpemnanoaa
