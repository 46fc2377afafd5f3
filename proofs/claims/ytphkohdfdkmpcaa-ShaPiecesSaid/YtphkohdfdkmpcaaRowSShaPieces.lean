/- The row of the law ShaPieces: for every input the law's call returns true, whatever memory; no condition. Out of the contract ShaPieces_c. -/
import Derived.Test.YtphkohdfdkmpcaaSC
import Derived.Test.YtphkohdfdkmpcaaRows
import Derived.WalkKit
import Derived.ProofKit
import Derived.OpenShut
import Derived.ShutString
import Derived.ChangeOld
import Derived.Below
import Derived.SizedLaws
import Derived.Test.YtphkohdfdkmpcaaWSized
import Derived.Lib.SmallJoins

-- ShaPieces
namespace Go.Proofs.Ytphkohdfdkmpcaa.F
open Go Go.RowKit Go.Proofs.YtphkohdfdkmpcaaW.PrintWords Go.Proofs.YtphkohdfdkmpcaaW.PrintLast Go.Proofs.YtphkohdfdkmpcaaW.PrintMore Go.Proofs.YtphkohdfdkmpcaaR
attribute [local go_sem] max2_int min2_int max_two min_two
set_option linter.unusedSimpArgs false
set_option linter.unusedVariables false
set_option maxRecDepth 100000
theorem wf8 {l : List Int} (h : ∀ x ∈ l, (Lit.int .u8 x).wf = true) : ∀ x ∈ l, 0 ≤ x ∧ x < 256 := fun x hx => by
  have := h x hx
  simp [Lit.wf, IntKind.min, IntKind.max, IntKind.bits, IntKind.signed] at this
  omega
theorem rows_cell {w : World} {A : Option Addr} {n e : Nat} {x : List (List Int)} (h : Kd.C (Kd.slice e (Kd.int .u8)) w A n x) (i : Nat) (hi : i < n) :
    ∃ ad A' c', A = some ad ∧ w.cell? (ad.add i) = some (.slice A' (x.getD i []).length c') ∧ (x.getD i []).length ≤ c' ∧ Kd.C (Kd.int .u8) w A' (x.getD i []).length (x.getD i []) := by
  obtain ⟨ad, c, hA, hs, ⟨A', c', hc, hl, hC⟩, hcell⟩ := ReadsRow.get_ h [] (i : Int) (by omega) (by omega)
  rw [Int.toNat_natCast] at hc hl hC hcell
  have := hcell 0 (.slice A' (x.getD i []).length c') (by rw [hc]; rfl)
  refine ⟨ad, A', c', hA, ?_, hl, hC⟩
  rw [show i * (Kd.int .u8 |> Kd.slice e).sz + 0 = i from by simp [Kd.slice]] at this
  exact this
theorem flat_le {n : Nat} : ∀ ls : List (List Int), (∀ l ∈ ls, l.length ≤ n) → ls.flatten.length ≤ n * ls.length
  | [], _ => by simp
  | l :: ls, h => by
    have h1 := flat_le ls (fun m hm => h m (by simp [hm]))
    have h2 := h l (by simp)
    rw [List.flatten_cons, List.length_append, List.length_cons, Nat.mul_add]; omega
/-- a Hash that has eaten these bytes, and a row of them, apart from it -/
structure Both (g : Nat) (rv va : Value) (B : Nat) (l : List Int) (w : World) : Prop where
  h : HashA g l.length l rv B w
  row : w.ownsRow B 5 1 va l.length (nums .u8 l)
  apart : ∀ k, rv.ownBlock = some k → va.ownBlock ≠ some k
theorem Both.grew {g : Nat} {rv va : Value} {B : Nat} {l : List Int} {w w' : World} (h : Both g rv va B l w) (hg : Grew w w') : Both g rv va B l w' := ⟨h.h.grew hg, pw_own_below h.row hg, h.apart⟩
set_option maxHeartbeats 8000000 in
theorem ShaPieces_c (w : World) (A : Option Addr) (c : Nat) (l : List (List Int)) (hr : Kd.C (Kd.slice 5 (Kd.int .u8)) w A l.length l) (hc : l.length ≤ c) (hok : ∀ x ∈ l, ∀ y ∈ x, (Lit.int .u8 y).wf = true) :
    Calls Try.prog 7 #[.slice A l.length c] w (Tells w (Is (.bool true))) := by
  have HOk := Lib.hid (fun x hx => wf8 (hok x hx))
  obtain ⟨n, hn⟩ : ∃ n, n = l.length := ⟨_, rfl⟩
  rw [← hn] at hr hc ⊢
  have HR := Lib.hid hr
  have HN := Lib.hid hn
  clear hok hr hn
  go_enter Try.func7, Try.ntmps7
  go_wp2_with fail
  refine (new_h w).mono ?_
  rintro e w1 ⟨_, rfl, ⟨g, rfl, hh⟩, hg1⟩
  have hE := Empty0.new w1 w.heap.size 5 hg1.size
  obtain ⟨b, hb1, hb2⟩ := hE
  obtain ⟨rfl⟩ : w1.heap.size = b := by simpa using hb1
  have hgE : Grew w1 (w1.alloc (.cells #[] 5)) := Grew.alloc _ _
  have hbo : Both g (.slice none 0 0) (.slice (some ⟨w1.heap.size, 0, none⟩) 0 0) w.heap.size [] (w1.alloc (.cells #[] 5)) := ⟨hh.grew hgE, hb2, fun k hk => by simp [Value.ownBlock] at hk⟩
  have hg2 := Grew.trans hg1 hgE
  clear hh hb1 hb2 hgE hg1
  go_wp2_with fail
  go_loopw [4, 5] (fun v4 iv wr => ∃ (pre suf : List (List Int)) (va rv : Value) (i : Nat), v4 = va ∧ iv = .int .i64 (i : Int) ∧ i = pre.length ∧ l = pre ++ suf ∧ i ≤ 30 ∧ (∀ x ∈ pre, x.length ≤ 300) ∧ Both g rv va w.heap.size pre.flatten wr ∧ Grew w wr) (fun _ iv _ => 30 - (intOf iv).toNat)
  case atStart => exact ⟨[], l, _, _, 0, rfl, rfl, rfl, rfl, by omega, by simp, hbo, hg2⟩
  case round =>
    obtain ⟨pre, suf, va, rv, i, rfl, rfl, hip, hl, h30, h300, hbo, hg⟩ := hrel
    clear hg2
    have hfl := flat_le pre h300
    have hbyt : ∀ z ∈ pre.flatten, 0 ≤ z ∧ z < 256 := fun z hz => by
      obtain ⟨q, hq, hzq⟩ := List.mem_flatten.1 hz
      exact HOk.out q (by rw [hl]; simp [hq]) z hzq
    have hfl2 : pre.flatten.length ≤ 9000 := by rw [← hip] at hfl; omega
    obtain ⟨F, hF⟩ : ∃ F, F = pre.flatten := ⟨_, rfl⟩
    rw [← hF] at hbo hfl2 hbyt
    obtain ⟨Aa, ca, rfl⟩ := own_slice hbo.row
    obtain ⟨nf, hnf⟩ : ∃ nf, nf = F.length := ⟨_, rfl⟩
    have HBO := Lib.hid hbo
    rw [← hnf] at HBO ⊢
    by_cases hgo : i < n ∧ i < 30
    · obtain ⟨hin, hi30⟩ := hgo
      have d1 : decide ((i : Int) < (n : Int)) = true := decide_eq_true (by omega)
      have d2 : decide ((i : Int) < 30) = true := decide_eq_true (by omega)
      obtain ⟨x, suf2, hsuf⟩ : ∃ x suf2, suf = x :: suf2 := by
        rcases suf with _ | ⟨x, s2⟩
        · rw [hl, List.append_nil] at HN; have := HN.out; omega
        · exact ⟨x, s2, rfl⟩
      have hxi : l.getD i [] = x := by rw [hl, hsuf, hip]; simp [List.getD]
      have hxb : ∀ y ∈ x, 0 ≤ y ∧ y < 256 := HOk.out x (by rw [hl, hsuf]; simp)
      obtain ⟨ad, Ax, cx, rfl, hcell, hcx, hCx⟩ := rows_cell HR.out i hin
      rw [hxi] at hcell hcx hCx
      obtain ⟨nx, hnx⟩ : ∃ nx, nx = x.length := ⟨_, rfl⟩
      rw [← hnx] at hcell hcx hCx
      have HCell := Lib.hid (fun w' (h : Grew w w') => pw_cell_below h hcell)
      have HX := Lib.hid hCx
      have HXB := Lib.hid hxb
      have HNX := Lib.hid hnx
      have HFL := Lib.hid hfl2
      have HNF := Lib.hid hnf
      have HB := Lib.hid hbyt
      have HG := Lib.hid hg
      have HFe := Lib.hid hF
      have HIP := Lib.hid hip
      have H300 := Lib.hid h300
      have HL := Lib.hid (show l = (pre ++ [x]) ++ suf2 from by rw [hl, hsuf]; simp)
      have k1 := HCell.out wr hg
      have i1 : (i : Int) < (n : Int) := by omega
      clear hbo hfl hbyt hfl2 hnf hF hl hip h300 h30 hsuf hxi hxb hcell hCx hnx hg
      by_cases hbig : 300 < nx
      · have d3 : decide (300 < nx) = true := decide_eq_true hbig
        have d3' : decide (300 < (nx : Int)) = true := decide_eq_true (by omega)
        go_wp2_with fail
        refine (lives_c _).mono ?_
        rintro e w2 ⟨_, rfl, rfl, hg2⟩
        go_wp2_with fail
        go_ret
        exact ⟨_, rfl, rfl, Grew.trans HG.out hg2⟩
      · have d3 : decide (300 < nx) = false := decide_eq_false hbig
        have d3' : decide (300 < (nx : Int)) = false := decide_eq_false (by omega)
        have hgs := HG.out
        have hva : ∀ k, (Value.slice Aa nf ca).ownBlock = some k → ¬ HS g rv k := fun k hk hS => by
          rcases hS with e | e
          · have := own_ne HBO.out.row HBO.out.h.cells (by decide)
            exact this (by rw [hk, e])
          · exact HBO.out.apart k e hk
        have hlow := HS.low HBO.out.h
        have hwr := write_c wr Ax cx x HBO.out.h hgs.size (fun w' hu => by
          rw [← HNX.out]
          exact Kd.C_below HX.out (Below.trans hgs (hu.below hgs.size hlow))) (by rw [← HNX.out]; exact hcx) (by have := HFL.out; have := HNX.out; omega) HXB.out
        rw [← HNX.out] at hwr
        have HW := Lib.hid hwr
        clear hwr hgs
        go_wp2_with fail
        clear k1
        refine HW.out.mono ?_
        rintro e w3 ⟨_, rfl, ⟨rfl, rv', hh3, hfr3⟩, hu3⟩
        have hg3 : Grew w w3 := Below.trans HG.out (hu3.below HG.out.size hlow)
        have hrow3 := hu3.own HBO.out.row hva
        rw [← HNF.out] at hrow3
        have hap3 : ∀ k, rv'.ownBlock = some k → (Value.slice Aa nf ca).ownBlock ≠ some k := fun k hk he => by
          rcases hfr3 k hk with h | h
          · exact HBO.out.apart k h he
          · have := own_lt HBO.out.row k he
            omega
        obtain ⟨v1, w4, hrun, hrow4, hgr4, hat4⟩ := app_num (P := Try.prog) (k := .u8) w3 w.heap.size 28 5 28 1 Try.underlying28 info5 (by decide) (.slice Aa nf ca) F x Ax nx cx (by rw [← HNF.out]; exact hrow3) (reads_of (Kd.C_below HX.out hg3)) hg3.size (by have := HFL.out; omega)
        have hu4 : Upd (fun j => (Value.slice Aa nf ca).ownBlock = some j) w3 w4 := (Upd.refl _ _).grown hgr4 (fun j hj => .inl hj)
        have hg4 : Grew w w4 := Below.trans hg3 (hu4.below hg3.size (fun k hk => own_base hrow3 k hk))
        have hh4 := hh3.upd hu4 (fun k hk he => by
          rcases hk with e | e
          · exact own_ne hrow3 hh3.cells (by decide) (by rw [he, e])
          · exact hap3 k e he)
        have hap4 : ∀ k, rv'.ownBlock = some k → v1.ownBlock ≠ some k := fun k hk he => by
          rcases hat4 with h | h
          · exact hap3 k hk (h ▸ he)
          · rw [h] at he
            have := own_lt hh3.row k hk
            have := Option.some.inj he
            omega
        rw [show F.length + nx = (F ++ x).length from by rw [List.length_append, HNX.out]] at hh4
        have hb4 : Both g rv' v1 w.heap.size (F ++ x) w4 := ⟨hh4, hrow4, hap4⟩
        obtain ⟨A4, c4, rfl⟩ := own_slice hrow4
        obtain ⟨n4, hn4⟩ : ∃ n4, n4 = (F ++ x).length := ⟨_, rfl⟩
        have HB4 := Lib.hid hb4
        rw [← hn4] at HB4 hrun
        have HN4 := Lib.hid hn4
        have HG4 := Lib.hid hg4
        have k3 := HCell.out w3 hg3
        have hy4 : n4 ≤ 9300 := by rw [hn4, List.length_append]; have := HFL.out; have := HNX.out; omega
        have hbb : ∀ y ∈ F ++ x, 0 ≤ y ∧ y < 256 := fun y hy => (List.mem_append.1 hy).elim (HB.out y) (HXB.out y)
        have hrel2 : (F ++ x) = (pre ++ [x]).flatten := by rw [HFe.out]; simp
        have HY4 := Lib.hid hy4
        have HBB := Lib.hid hbb
        have HRel := Lib.hid hrel2
        have hd3 : (300 : Nat) ≥ nx := by omega
        clear hn4 hg4 hb4 hap4 hap3 hh4 hu4 hgr4 hat4 hrow4 hrow3 hh3 hfr3 hu3 hg3 hva hlow HW hy4 hbb hrel2
        obtain ⟨r, hr⟩ : ∃ r, r = i % 3 := ⟨_, rfl⟩
        have e3 : (i : Int).tmod 3 = (r : Int) := by rw [show (3 : Int) = ((3 : Nat) : Int) from rfl, tmod_nat, hr]
        clear hr
        by_cases hr0 : r = 0
        · subst hr0
          have hs1 := sum_c w4 HB4.out.h (by rw [← HN4.out]; have := HY4.out; omega)
          have hs2 := fun w' (hg : Grew w4 w') => sum1_c w' A4 c4 n4 (F ++ x) (by have h := pw_own_below HB4.out.row hg; rw [← HN4.out] at h; exact C_of (own_reads' h)) HN4.out.symm (by have := own_le HB4.out.row; exact this) (by have := HY4.out; omega) HBB.out
          obtain ⟨D, hD⟩ : ∃ D, D = strOfNums (shaL (F ++ x)) := ⟨_, rfl⟩
          simp only [← hD] at hs1 hs2
          have HS1 := Lib.hid hs1
          have HS2 := Lib.hid hs2
          clear hs1 hs2 hD
          go_wp2_with (at_builtin; refine wpList_app (by rfl) (.tmp 33) (.tmp 37) 28 (by rfl) (by rfl) (by rfl) hrun ?_)
          refine HS1.out.mono ?_
          rintro e w5 ⟨_, rfl, rfl, hg5⟩
          go_wp2_with fail
          refine (HS2.out w5 hg5).mono ?_
          rintro e w6 ⟨_, rfl, rfl, hg6⟩
          go_wp2_with fail
          go_roundw
          case rel =>
            refine ⟨pre ++ [x], suf2, _, rv', i + 1, rfl, by go_num, by rw [List.length_append, ← HIP.out]; rfl, HL.out, by omega, ?_, ?_, ?_⟩
            · intro y hy
              rcases List.mem_append.1 hy with h | h
              · exact H300.out y h
              · rw [List.mem_singleton.1 h, ← HNX.out]; exact hd3
            · rw [← HRel.out]
              exact HB4.out.grew (Grew.trans hg5 hg6)
            · exact Grew.trans HG4.out (Grew.trans hg5 hg6)
          case measure => simp [intOf]; omega
        · have r1 : ¬ (r : Int) = 0 := by omega
          have r2 : decide ((r : Int) = 0) = false := decide_eq_false r1
          go_wp2_with (at_builtin; refine wpList_app (by rfl) (.tmp 33) (.tmp 37) 28 (by rfl) (by rfl) (by rfl) hrun ?_)
          go_roundw
          case rel =>
            refine ⟨pre ++ [x], suf2, _, rv', i + 1, rfl, by go_num, by rw [List.length_append, ← HIP.out]; rfl, HL.out, by omega, ?_, ?_, ?_⟩
            · intro y hy
              rcases List.mem_append.1 hy with h | h
              · exact H300.out y h
              · rw [List.mem_singleton.1 h, ← HNX.out]; exact hd3
            · rw [← HRel.out]
              exact HB4.out.grew (Grew.refl w4)
            · exact Grew.trans HG4.out (Grew.refl w4)
          case measure => simp [intOf]; omega
    · have hex : (decide ((i : Int) < (n : Int)) = false ∧ ¬ i < n) ∨ ((decide ((i : Int) < (n : Int)) = true ∧ i < n) ∧ decide ((i : Int) < 30) = false ∧ i = 30) := by
        by_cases h : i < n
        · exact .inr ⟨⟨decide_eq_true (by omega), h⟩, decide_eq_false (by omega), by omega⟩
        · exact .inl ⟨decide_eq_false (by omega), h⟩
      have HB := Lib.hid hbyt
      have HFL := Lib.hid hfl2
      have HNF := Lib.hid hnf
      have HG := Lib.hid hg
      clear hbo hfl hbyt hfl2 hnf hF hl hip h300 hgo hg h30
      rcases hex with ⟨d1, d3⟩ | ⟨⟨d1, d3⟩, d2, rfl⟩
      all_goals
        have hs1 := fun w' (hg : Grew wr w') => sum_c w' (HBO.out.h.grew hg) (by have := HFL.out; omega)
        have hs2 := fun w' (hg : Grew wr w') => sum1_c w' Aa ca nf F (by have h := pw_own_below HBO.out.row hg; rw [← HNF.out] at h; exact C_of (own_reads' h)) HNF.out.symm (own_le HBO.out.row) (by rw [HNF.out]; have := HFL.out; omega) HB.out
        obtain ⟨D, hD⟩ : ∃ D, D = strOfNums (shaL F) := ⟨_, rfl⟩
        simp only [← hD] at hs1 hs2
        have hD32 : D.size = 32 := by rw [hD, str_size, shaL_len]
        have HS1 := Lib.hid hs1
        have HS2 := Lib.hid hs2
        clear hs1 hs2 hD
        go_wp2_with fail
        refine (HS1.out wr (Grew.refl wr)).mono ?_
        rintro e w5 ⟨_, rfl, rfl, hg5⟩
        go_wp2_with fail
        refine (HS2.out w5 hg5).mono ?_
        rintro e w6 ⟨_, rfl, rfl, hg6⟩
        go_wp2_with fail
        refine (HS1.out w6 (Grew.trans hg5 hg6)).mono ?_
        rintro e w7 ⟨_, rfl, rfl, hg7⟩
        go_wp2_with fail
        refine (lives_c w7).mono ?_
        rintro e w8 ⟨_, rfl, rfl, hg8⟩
        go_wp2_with fail
        go_ret
        exact ⟨_, rfl, rfl, Grew.trans (Grew.trans (Grew.trans (Grew.trans HG.out hg5) hg6) hg7) hg8⟩
end Go.Proofs.Ytphkohdfdkmpcaa.F

-- RowShaPieces
namespace Go.Proofs.Ytphkohdfdkmpcaa.shaPieces
open Go.ChangeShapes Go.WideShapes Go.ChangeAt Go.RowKit
open Go.ChangeMaps (open_string shut_string)
set_option linter.unusedVariables false
set_option linter.unusedSimpArgs false
theorem own : ownKnob Try.prog.godebug = none := by kernel_rfl
theorem laidOut : laidOutB Try.prog = true := by kernel_rfl
set_option maxRecDepth 100000 in
theorem lifted (os : Os) (started : os.Started) (H : Type) (enc : TypeId × Value → H) :
    ReturnsInHanded {} Try.checked os 7 .any (Rows.shaPiecesSpec.pre6 enc Try.prog Try.f7 Rows.shaPiecesRow.domain false) (Rows.shaPiecesSpec.post enc Try.prog Try.f7 false true false false) := by
  refine returnsInHanded_of_change_sized (C := Try.checked) own started (by kernel_rfl) Try.func7
    (ChangeSpec.witness6 (enc := enc) (C := Try.checked) false ⟨#[], #[.slice none 0 0], []⟩ 8 (by kernel_rfl) (by kernel_rfl) (by kernel_rfl) (by kernel_rfl)) ?_
  intro W base args ds gs before hval0 hW hcnd hsz0 _
  have hsz : (DataW.weightsEach Try.prog (Try.f7.params.toList ++ Rows.shaPiecesSpec.plain.varTypes Try.prog) (ds ++ gs)).all (· ≤ reachBytes) = true := hsz0
  have hval : ∀ (j : Nat) t v, Try.f7.params[j]? = some t → args[j]? = some v → Value.okWide Try.prog W .any base t v := hval0
  have hW' := hW
  obtain ⟨p, q, hA0, hV, rfl, hfz, hnd⟩ := hW
  have hA : DataW.TrodAll enc Try.prog W 0 (fun _ => true) true Try.f7.params.toList args.toList ds p := hA0
  rw [Try.params7] at hA hval hsz
  obtain ⟨v0, vs0, d0, ds0, p0, q0, hargs, rfl, rfl, h0, r0⟩ := trodAll_cons hA
  obtain ⟨rfl, rfl, rfl⟩ := trodAll_nil r0
  obtain rfl : args = #[v0] := by cases args; simp_all
  obtain ⟨rfl, rfl⟩ := trodVars_none hV
  obtain ⟨a0, len0, cap0, rfl⟩ := okWide_slice Try.underlying34 (hval 0 34 v0 rfl rfl)
  have k0 := h0
  have lt0 : ∀ x ∈ p0, x.block < W.heap.size := by obtain ⟨m, hm⟩ := k0; exact DataW.trod_lt m _ _ _ hm
  obtain ⟨x0, ⟨A0, cp0, e0, hc0, hC0⟩, ok0⟩ := Go.Proofs.YtphkohdfdkmpcaaO.opensW_arg (d := (Go.Proofs.YtphkohdfdkmpcaaW.PrintWords.Kd.slice 28 (Go.Proofs.YtphkohdfdkmpcaaW.PrintWords.Kd.slice 5 (Go.Proofs.YtphkohdfdkmpcaaW.PrintWords.Kd.int .u8)))) (Go.Proofs.YtphkohdfdkmpcaaO.opensW_slice Try.underlying34 (Go.Proofs.YtphkohdfdkmpcaaO.opensW_slice Try.underlying28 (Go.Proofs.YtphkohdfdkmpcaaO.Opens.w (Go.Proofs.YtphkohdfdkmpcaaO.opens_int Try.underlying5)) (by kernel_rfl)) (by kernel_rfl)) hsz (j := 0) (t := 34) rfl rfl h0
  obtain ⟨rfl, rfl, rfl⟩ := Value.slice.inj (List.cons.inj e0).1
  clear hA0 hval0 hsz0 hsz
  refine (Go.Proofs.YtphkohdfdkmpcaaR.is_tells (Go.Proofs.Ytphkohdfdkmpcaa.F.ShaPieces_c W a0 cap0 x0 hC0 hc0 ok0)).mono fun e W' ⟨he, bel⟩ => ?_
  subst he
  exact ⟨_, rfl, _, _, _, [], _, [], hW', trodAll_mk1 (shut_bool Try.underlying4 _), (trodAll_cons_mk (Below.trod laidOut (by kernel_rfl) (of_decide_eq_true (by kernel_rfl)) k0 bel lt0) trodAll_mk0), rfl, bel.frame _, fun h => by cases h⟩
theorem over : Rows.shaPiecesRow.holds Try.pinned (OpenSpec.ofChange Rows.shaPiecesSpec) :=
  OpenClaim.holds_of_wide 7 Try.f7 rfl rfl rfl rfl rfl rfl rfl ⟨rfl, rfl, rfl, rfl, rfl⟩ rfl rfl rfl rfl rfl (by kernel_rfl) Try.func7 (by kernel_rfl)
    (of_decide_eq_true (by kernel_rfl)) (by unfold Func.isWrapper; first | (rw [if_pos (by decide +kernel)]; kernel_rfl) | (rw [if_neg (by decide +kernel)]; exact ⟨rfl, rfl⟩))
    (fun os started H enc _ => lifted os started H enc)
end Go.Proofs.Ytphkohdfdkmpcaa.shaPieces
namespace Go.Proofs.Ytphkohdfdkmpcaa
/-- The row, under a short name, for the claim. -/
theorem shaPieces_holds : Rows.ShaPiecesSaid := shaPieces.over
#print axioms shaPieces_holds
end Go.Proofs.Ytphkohdfdkmpcaa
