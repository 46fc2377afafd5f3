/- The row of the law LzCuts: for every input the law's call returns true, whatever memory; no condition. Out of the contract LzCuts_c. -/
import Derived.Test.YtehbebpemnanoaaSC
import Derived.Test.YtehbebpemnanoaaRows
import Derived.WalkKit
import Derived.ProofKit
import Derived.OpenShut
import Derived.ShutString
import Derived.ChangeOld
import Derived.Below
import Derived.SizedLaws
import Derived.Test.YtehbebpemnanoaaWSized

-- LzCuts
namespace Go.Proofs.Ytehbebpemnanoaa.F
open Go Go.RowKit Go.Proofs.YtehbebpemnanoaaW.PrintWords Go.Proofs.YtehbebpemnanoaaW.PrintLast Go.Proofs.YtehbebpemnanoaaW.PrintMore Go.Proofs.YtehbebpemnanoaaM Go.Proofs.YtehbebpemnanoaaR
attribute [local go_sem] max2_int min2_int max_two min_two
set_option linter.unusedSimpArgs false
set_option linter.unusedVariables false
set_option maxRecDepth 100000
set_option maxHeartbeats 8000000 in
theorem LzCuts_c (w : World) (A : Option Addr) (c : Nat) (x : List Int) (cut more : Int) (hC : Kd.C (Kd.int .u8) w A x.length x) (hc : x.length ≤ c) (hm_ : x.length ≤ maxLen) (hz_ : x.length * 1 ≤ 140737488351232) (ok_ : ∀ y ∈ x, (Lit.int .u8 y).wf = true) (hcut : (Lit.int .i64 cut).wf = true) (hmore : (Lit.int .u8 more).wf = true) :
    Calls Try.prog 6 #[.slice A x.length c, .int .i64 cut, .int .u8 more] w (Tells w (Is (.bool true))) := by
  have hmb : 0 ≤ more ∧ more < 256 := by simp [Lit.wf, IntKind.min, IntKind.max, IntKind.bits, IntKind.signed] at hmore; omega
  clear hmore hcut
  have ok := bytes_of ok_
  clear ok_ hz_ hm_
  obtain ⟨n, hn⟩ : ∃ n, n = x.length := ⟨_, rfl⟩
  rw [← hn] at hC hc ⊢
  by_cases hgo : 2000 < n
  · have y1 : decide ((2000 : Int) < (n : Int)) = true := decide_eq_true (by omega)
    have y2 : decide (2000 < n) = true := decide_eq_true hgo
    clear hn hC ok
    go_enter Try.func6, Try.ntmps6
    go_wp2_with fail
    refine (lives_c _).mono ?_
    rintro e w3 ⟨_, rfl, rfl, hg3⟩
    go_wp2_with fail
    go_ret
    exact ⟨_, rfl, rfl, hg3⟩
  · have y1 : decide ((2000 : Int) < (n : Int)) = false := decide_eq_false (by omega)
    have y2 : decide (2000 < n) = false := decide_eq_false hgo
    have HP := Lib.hid (pack_c w A n c x hC hn.symm hc ok (by omega))
    have HN := Lib.hid hn
    have hn2 : n ≤ 2000 := by omega
    have hw1 : IntKind.i64.wrap ((n : Int) - 1) = (n : Int) - 1 := by rw [IntWalk.i64_in _ (by omega)]
    clear hn hC ok hgo
    go_enter Try.func6, Try.ntmps6
    go_wp2_with fail
    refine HP.out.mono ?_
    rintro e w1 ⟨v1, rfl, ⟨L, v0, hch, rfl, hown⟩, hg1⟩
    obtain ⟨hsz, htk, hexp, hlen, hby, -⟩ := pack_facts hch (by rw [← HN.out]; omega)
    obtain ⟨hch1, hgood, htell, -⟩ := hch
    rw [← HN.out] at hsz htk hlen hby htell hown
    obtain ⟨l, hl⟩ : ∃ l, l = layL n L := ⟨_, rfl⟩
    have HL := Lib.hid hl
    rw [← hl] at hsz htk hlen hby hown
    obtain ⟨A1, c1, rfl, -, hc1, hC1⟩ := own_C hown
    obtain ⟨pl, hpl⟩ : ∃ pl, pl = l.length := ⟨_, rfl⟩
    have hplb : pl ≤ 3000 := by omega
    have HGOOD := Lib.hid hgood
    have HTELL := Lib.hid htell
    have HBY := Lib.hid hby
    have HPL := Lib.hid hpl
    have HC1 := Lib.hid hC1
    have HC1N := Lib.hid hc1
    have HSZ := Lib.hid hsz
    have HU1 := Lib.hid (fun w' (h : Grew w1 w') => unpack_c w' A1 c1 l ((n : Int) - 1) (Kd.C_below hC1 h) hc1 (by omega) hby (by omega) (by omega))
    have HFU := Lib.hid (fun base => full_unpack base l L n ((n : Int) - 1) hsz)
    have HTK := Lib.hid htk
    rw [← hpl]
    rw [← hpl] at HU1 hc1 HC1N
    clear hown hgood htell hby hl hpl hC1 hsz htk hch1 hexp hlen
    go_wp2_with fail
    have HCASE : ∀ w' v, unpackV w1.heap.size l ((n : Int) - 1) w' v → ∃ vx ec, v = .tuple #[vx, .int .i64 ec] ∧ ((0 < n ∧ ec = 2) ∨ (¬ 0 < n ∧ ec = 0)) := by
      intro w' v hv
      by_cases h : 0 < n
      · rw [less_unpack _ l n HSZ.out h] at hv
        exact ⟨_, _, hv, .inl ⟨h, rfl⟩⟩
      · rw [HFU.out _ (by omega) HTK.out] at hv
        obtain ⟨v0, h1, -⟩ := hv
        exact ⟨_, _, h1, .inr ⟨h, rfl⟩⟩
    have HCASE := Lib.hid HCASE
    refine (HU1.out _ (Grew.refl _)).mono ?_
    rintro e w2 ⟨v2, rfl, hv2, hg2⟩
    obtain ⟨vx, ec, rfl, hec⟩ := HCASE.out _ _ hv2
    have HECN : (decide ((0 : Int) < (n : Int)) = true ∧ decide (0 < n) = true ∧ decide ((n : Int) = 0) = false ∧ decide (n = 0) = false ∧ ec = 2 ∧ ¬ (n : Int) = 0 ∧ ¬ n = 0) ∨ (decide ((0 : Int) < (n : Int)) = false ∧ decide (0 < n) = false ∧ decide ((n : Int) = 0) = true ∧ decide (n = 0) = true ∧ ec = 0 ∧ n = 0) := by
      rcases hec with ⟨h, h1⟩ | ⟨h, h1⟩
      · exact .inl ⟨decide_eq_true (by omega), decide_eq_true h, decide_eq_false (by omega), decide_eq_false (by omega), h1, by omega, by omega⟩
      · exact .inr ⟨decide_eq_false (by omega), decide_eq_false h, decide_eq_true (by omega), decide_eq_true (by omega), h1, by omega⟩
    have HCUT : (∃ k : Nat, cut = (k : Int) ∧ k < pl) ∨ (decide ((0 : Int) ≤ cut) = false ∧ ¬ (0 : Int) ≤ cut) ∨ (decide ((0 : Int) ≤ cut) = true ∧ (0 : Int) ≤ cut ∧ decide (cut < (pl : Int)) = false ∧ ¬ cut < (pl : Int)) := by
      by_cases h1 : 0 ≤ cut
      · by_cases h2 : cut < (pl : Int)
        · exact .inl ⟨cut.toNat, by omega, by omega⟩
        · exact .inr (.inr ⟨decide_eq_true h1, h1, decide_eq_false h2, h2⟩)
      · exact .inr (.inl ⟨decide_eq_false h1, h1⟩)
    have HALL := Lib.hid (fun w' (h : Grew w1 w') => by
      have := all_two w' A1 pl c1 l more (by rw [HPL.out]; exact Kd.C_below HC1.out h) HPL.out.symm (by omega)
      exact this)
    have HTOK := Lib.hid (fun w' A' c' (h : Kd.C (Kd.int .u8) w' A' (pl + 1) (l ++ [more])) (hc' : pl + 1 ≤ c') => by
      have e : (l ++ [more]).length = pl + 1 := by rw [List.length_append, HPL.out]; rfl
      have := tokens_c w' A' c' (l ++ [more]) (by rw [e]; exact h) (by rw [e]; exact hc') (by rw [e]; omega) (fun y hy => by
        rcases List.mem_append.1 hy with hy | hy
        · exact HBY.out y hy
        · rw [List.mem_singleton.1 hy]; exact hmb)
      rw [e, show tokensL (l ++ [more]) = none from by rw [HL.out]; exact more_toks L n more (by omega) hmb.1 HGOOD.out HTELL.out] at this
      exact this)
    have hg12 := hg1.trans hg2
    clear hv2 hec
    rcases HCUT with ⟨k, rfl, hk⟩ | ⟨z1, z2⟩ | ⟨z1, z2, z3, z4⟩
    · have z1 : decide ((0 : Int) ≤ (k : Int)) = true := decide_eq_true (by omega)
      have z2 : decide ((k : Int) < (pl : Int)) = true := decide_eq_true (by omega)
      have z3 : decide (k < pl) = true := decide_eq_true hk
      have z4 : k ≤ c1 := by omega
      have HU2 := Lib.hid (fun w' (h : Grew w1 w') => unpack_c w' A1 c1 (l.take k) (n : Int) (by rw [show (l.take k).length = k from by rw [List.length_take, ← HPL.out]; omega]; exact C_cut (Kd.C_below HC1.out h) k (by rw [← HPL.out]; omega)) (by rw [List.length_take]; omega) (by rw [List.length_take, ← HPL.out]; omega) (fun y hy => HBY.out y (List.mem_of_mem_take hy)) (by omega) (by omega))
      have HCV := Lib.hid (fun base => cut_unpack base L n k (by omega) HGOOD.out HTELL.out (by rw [← HL.out, ← HPL.out]; exact hk))
      rw [← HL.out] at HCV
      rw [show (l.take k).length = k from by rw [List.length_take, ← HPL.out]; omega] at HU2
      rcases HECN with ⟨q1, q2, q3, q4, rfl, q6, q7⟩ | ⟨-, -, -, -, rfl, rfl⟩
      all_goals
        go_wp2_with fail
        refine (HU2.out _ hg2).mono ?_
        rintro e w3 ⟨v3, rfl, hv3, hg3⟩
        rw [HCV.out] at hv3
        subst hv3
        obtain ⟨A4, c4, w4, hr4, hg4, A5, c5, w5, hr5, hg5, hc5, hC5⟩ := HALL.out w3 (hg2.trans hg3)
        have HR4 := Lib.hid hr4
        have HR5 := Lib.hid hr5
        have HT5 := Lib.hid (HTOK.out w5 A5 c5 hC5 hc5)
        clear hr4 hr5 hC5 hc5
        go_wp2_with (at_builtin; first | refine wpList_app (by rfl) (.tmp 76) (.tmp 77) 25 (by rfl) (by rfl) (by rfl) HR4.out ?_ | refine wpList_app (by rfl) (.tmp 79) (.tmp 81) 25 (by rfl) (by rfl) (by rfl) HR5.out ?_)
        refine HT5.out.mono ?_
        rintro e w6 ⟨v6, rfl, hv6, hg6⟩
        obtain rfl := hv6
        go_wp2_with fail
        refine (lives_c _).mono ?_
        rintro e w7 ⟨_, rfl, rfl, hg7⟩
        go_wp2_with fail
        go_ret
        exact ⟨_, rfl, rfl, (hg12.trans hg3).trans (hg5.trans (hg6.trans hg7))⟩
    · rcases HECN with ⟨q1, q2, q3, q4, rfl, q6, q7⟩ | ⟨-, -, -, -, rfl, rfl⟩
      all_goals
        obtain ⟨A4, c4, w4, hr4, hg4, A5, c5, w5, hr5, hg5, hc5, hC5⟩ := HALL.out w2 hg2
        have HR4 := Lib.hid hr4
        have HR5 := Lib.hid hr5
        have HT5 := Lib.hid (HTOK.out w5 A5 c5 hC5 hc5)
        clear hr4 hr5 hC5 hc5
        go_wp2_with (at_builtin; first | refine wpList_app (by rfl) (.tmp 76) (.tmp 77) 25 (by rfl) (by rfl) (by rfl) HR4.out ?_ | refine wpList_app (by rfl) (.tmp 79) (.tmp 81) 25 (by rfl) (by rfl) (by rfl) HR5.out ?_)
        refine HT5.out.mono ?_
        rintro e w6 ⟨v6, rfl, hv6, hg6⟩
        obtain rfl := hv6
        go_wp2_with fail
        refine (lives_c _).mono ?_
        rintro e w7 ⟨_, rfl, rfl, hg7⟩
        go_wp2_with fail
        go_ret
        exact ⟨_, rfl, rfl, hg12.trans (hg5.trans (hg6.trans hg7))⟩
    · rcases HECN with ⟨q1, q2, q3, q4, rfl, q6, q7⟩ | ⟨-, -, -, -, rfl, rfl⟩
      all_goals
        obtain ⟨A4, c4, w4, hr4, hg4, A5, c5, w5, hr5, hg5, hc5, hC5⟩ := HALL.out w2 hg2
        have HR4 := Lib.hid hr4
        have HR5 := Lib.hid hr5
        have HT5 := Lib.hid (HTOK.out w5 A5 c5 hC5 hc5)
        clear hr4 hr5 hC5 hc5
        go_wp2_with (at_builtin; first | refine wpList_app (by rfl) (.tmp 76) (.tmp 77) 25 (by rfl) (by rfl) (by rfl) HR4.out ?_ | refine wpList_app (by rfl) (.tmp 79) (.tmp 81) 25 (by rfl) (by rfl) (by rfl) HR5.out ?_)
        refine HT5.out.mono ?_
        rintro e w6 ⟨v6, rfl, hv6, hg6⟩
        obtain rfl := hv6
        go_wp2_with fail
        refine (lives_c _).mono ?_
        rintro e w7 ⟨_, rfl, rfl, hg7⟩
        go_wp2_with fail
        go_ret
        exact ⟨_, rfl, rfl, hg12.trans (hg5.trans (hg6.trans hg7))⟩
end Go.Proofs.Ytehbebpemnanoaa.F

-- RowLzCuts
namespace Go.Proofs.Ytehbebpemnanoaa.lzCuts
open Go.ChangeShapes Go.WideShapes Go.ChangeAt Go.RowKit
open Go.ChangeMaps (open_string shut_string)
set_option linter.unusedVariables false
set_option linter.unusedSimpArgs false
theorem own : ownKnob Try.prog.godebug = none := by kernel_rfl
theorem laidOut : laidOutB Try.prog = true := by kernel_rfl
def IsRow (k : IntKind) (w : World) (a : Option Addr) (len cap : Nat) (zs : List Int) : Prop :=
  (a = none ∧ len = 0 ∧ cap = 0 ∧ zs = []) ∨
  ∃ x, a = some x ∧ len ≤ cap ∧ cap ≤ maxLen ∧ zs.length = cap ∧ (∀ i, i < zs.length → w.cell? (x.add i) = some (.int k (zs.getD i 0))) ∧ ∀ n ∈ zs, (Lit.int k n).wf = true
set_option maxRecDepth 100000 in
theorem lifted (os : Os) (started : os.Started) (H : Type) (enc : TypeId × Value → H) :
    ReturnsInHanded {} Try.checked os 6 .any (Rows.lzCutsSpec.pre6 enc Try.prog Try.f6 Rows.lzCutsRow.domain false) (Rows.lzCutsSpec.post enc Try.prog Try.f6 false true false false) := by
  refine returnsInHanded_of_change_sized (C := Try.checked) own started (by kernel_rfl) Try.func6
    (ChangeSpec.witness6 (enc := enc) (C := Try.checked) false ⟨#[], #[.slice none 0 0, .int .i64 0, .int .u8 0], []⟩ 8 (by kernel_rfl) (by kernel_rfl) (by kernel_rfl) (by kernel_rfl)) ?_
  intro W base args ds gs before hval0 hW hcnd hsz0 _
  have hsz : (DataW.weightsEach Try.prog (Try.f6.params.toList ++ Rows.lzCutsSpec.plain.varTypes Try.prog) (ds ++ gs)).all (· ≤ reachBytes) = true := hsz0
  have hval : ∀ (j : Nat) t v, Try.f6.params[j]? = some t → args[j]? = some v → Value.okWide Try.prog W .any base t v := hval0
  have hW' := hW
  obtain ⟨p, q, hA0, hV, rfl, hfz, hnd⟩ := hW
  have hA : DataW.TrodAll enc Try.prog W 0 (fun _ => true) true Try.f6.params.toList args.toList ds p := hA0
  rw [Try.params6] at hA hval hsz
  obtain ⟨v0, vs0, d0, ds0, p0, q0, hargs, rfl, rfl, h0, r0⟩ := trodAll_cons hA
  obtain ⟨v1, vs1, d1, ds1, p1, q1, rfl, rfl, rfl, h1, r1⟩ := trodAll_cons r0
  obtain ⟨v2, vs2, d2, ds2, p2, q2, rfl, rfl, rfl, h2, r2⟩ := trodAll_cons r1
  obtain ⟨rfl, rfl, rfl⟩ := trodAll_nil r2
  obtain rfl : args = #[v0, v1, v2] := by cases args; simp_all
  obtain ⟨rfl, rfl⟩ := trodVars_none hV
  obtain ⟨a0, len0, cap0, rfl⟩ := okWide_slice Try.underlying25 (hval 0 25 v0 rfl rfl)
  have k0 := h0
  have lt0 : ∀ x ∈ p0, x.block < W.heap.size := by obtain ⟨m, hm⟩ := k0; exact DataW.trod_lt m _ _ _ hm
  obtain ⟨z0, w0⟩ : ∃ zs, IsRow .u8 W a0 len0 cap0 zs := by
    obtain ⟨fuel, hf⟩ := h0
    rcases open_ints Try.underlying25 Try.underlying5 (by kernel_rfl) hf with ⟨hcs, _⟩ | ⟨x, l, c, zs, hcs, _, hl, hm, hz, _, hcell, hwz⟩
    · simp [Value.cells] at hcs
      obtain ⟨rfl, rfl, rfl⟩ := hcs
      exact ⟨[], .inl ⟨rfl, rfl, rfl, rfl⟩⟩
    · simp [Value.cells] at hcs
      obtain ⟨rfl, rfl, rfl⟩ := hcs
      exact ⟨zs, .inr ⟨_, rfl, hl, hm, by simpa using hz, hcell, hwz⟩⟩
  have y0 : len0 * 1 ≤ 140737488351232 := Go.Proofs.YtehbebpemnanoaaW.PrintWords.sized_ints hsz (j := 0) (t := 25) rfl rfl Try.underlying25 Try.underlying5 (by kernel_rfl) (by kernel_rfl) h0
  obtain ⟨l0, rfl, hr0, hm0, hw0, hc0⟩ := Go.Proofs.YtehbebpemnanoaaW.PrintWords.ReadsInt.ofRowC w0
  obtain ⟨a1, rfl, rfl, rfl, w1⟩ := open_int Try.underlying3 (hval 1 3 v1 rfl rfl) h1
  obtain ⟨a2, rfl, rfl, rfl, w2⟩ := open_int Try.underlying5 (hval 2 5 v2 rfl rfl) h2
  clear hA0 hval0 hsz0 hsz
  refine (Go.Proofs.YtehbebpemnanoaaR.is_tells (Go.Proofs.Ytehbebpemnanoaa.F.LzCuts_c W a0 cap0 l0 a1 a2 (Go.Proofs.YtehbebpemnanoaaW.PrintWords.Kd.C_of_reads (d := (0 : Int)) (h1 := fun _ => rfl) hr0) hc0 hm0 y0 hw0 w1 w2)).mono fun e W' ⟨he, bel⟩ => ?_
  subst he
  exact ⟨_, rfl, _, _, _, [], _, [], hW', trodAll_mk1 (shut_bool Try.underlying4 _), (trodAll_cons_mk (Below.trod laidOut (by kernel_rfl) (of_decide_eq_true (by kernel_rfl)) k0 bel lt0) (trodAll_cons_mk (shut_int Try.underlying3 w1) (trodAll_cons_mk (shut_int Try.underlying5 w2) trodAll_mk0))), rfl, bel.frame _, fun h => by cases h⟩
theorem over : Rows.lzCutsRow.holds Try.pinned (OpenSpec.ofChange Rows.lzCutsSpec) :=
  OpenClaim.holds_of_wide 6 Try.f6 rfl rfl rfl rfl rfl rfl rfl ⟨rfl, rfl, rfl, rfl, rfl⟩ rfl rfl rfl rfl rfl (by kernel_rfl) Try.func6 (by kernel_rfl)
    (of_decide_eq_true (by kernel_rfl)) (by unfold Func.isWrapper; first | (rw [if_pos (by decide +kernel)]; kernel_rfl) | (rw [if_neg (by decide +kernel)]; exact ⟨rfl, rfl⟩))
    (fun os started H enc _ => lifted os started H enc)
end Go.Proofs.Ytehbebpemnanoaa.lzCuts
namespace Go.Proofs.Ytehbebpemnanoaa
/-- The row, under a short name, for the claim. -/
theorem lzCuts_holds : Rows.LzCutsSaid := lzCuts.over
#print axioms lzCuts_holds
end Go.Proofs.Ytehbebpemnanoaa
