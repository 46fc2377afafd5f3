/- The row of the law LzOwn: for every input the law's call returns true, whatever memory; no condition. Out of the contract LzOwn_c. -/
import Derived.Test.YtehbebpemnanoaaSC
import Derived.Test.YtehbebpemnanoaaRows
import Derived.WalkKit
import Derived.ProofKit
import Derived.OpenShut
import Derived.ShutString
import Derived.ChangeOld
import Derived.Below
import Derived.SizedLaws
import Derived.Test.YtehbebpemnanoaaWSized

-- LzOwn
namespace Go.Proofs.Ytehbebpemnanoaa.F
open Go Go.RowKit Go.Proofs.YtehbebpemnanoaaW.PrintWords Go.Proofs.YtehbebpemnanoaaW.PrintLast Go.Proofs.YtehbebpemnanoaaW.PrintMore Go.Proofs.YtehbebpemnanoaaM Go.Proofs.YtehbebpemnanoaaR
attribute [local go_sem] max2_int min2_int max_two min_two
set_option linter.unusedSimpArgs false
set_option linter.unusedVariables false
set_option maxRecDepth 100000
set_option maxHeartbeats 8000000 in
theorem LzOwn_c (w : World) (A : Option Addr) (c : Nat) (x : List Int) (hC : Kd.C (Kd.int .u8) w A x.length x) (hc : x.length ≤ c) (hm_ : x.length ≤ maxLen) (hz_ : x.length * 1 ≤ 140737488351232) (ok_ : ∀ y ∈ x, (Lit.int .u8 y).wf = true) :
    Calls Try.prog 7 #[.slice A x.length c] w (Tells w (Is (.bool true))) := by
  have ok := bytes_of ok_
  clear ok_ hz_ hm_
  obtain ⟨n, hn⟩ : ∃ n, n = x.length := ⟨_, rfl⟩
  rw [← hn] at hC hc ⊢
  by_cases hgo : 2000 < n
  · have y1 : decide ((2000 : Int) < (n : Int)) = true := decide_eq_true (by omega)
    have y2 : decide (2000 < n) = true := decide_eq_true hgo
    clear hn hC ok
    go_enter Try.func7, Try.ntmps7
    go_wp2_with fail
    refine (lives_c _).mono ?_
    rintro e w3 ⟨_, rfl, rfl, hg3⟩
    go_wp2_with fail
    go_ret
    exact ⟨_, rfl, rfl, hg3⟩
  · have y1 : decide ((2000 : Int) < (n : Int)) = false := decide_eq_false (by omega)
    have y2 : decide (2000 < n) = false := decide_eq_false hgo
    have HP := Lib.hid (pack_c w A n c x hC hn.symm hc ok (by omega))
    have HN := Lib.hid hn
    have HC := Lib.hid hC
    have hn2 : n ≤ 2000 := by omega
    clear hn hC ok hgo
    go_enter Try.func7, Try.ntmps7
    go_wp2_with fail
    refine HP.out.mono ?_
    rintro e w1 ⟨v1, rfl, ⟨L, v0, hch, rfl, hown⟩, hg1⟩
    obtain ⟨hsz, htk, hexp, hlen, hby, -⟩ := pack_facts hch (by rw [← HN.out]; omega)
    rw [← HN.out] at hsz htk hlen hby hown
    obtain ⟨l, hl⟩ : ∃ l, l = layL n L := ⟨_, rfl⟩
    rw [← hl] at hsz htk hlen hby hown
    obtain ⟨A1, c1, rfl, -, hc1, hC1⟩ := own_C hown
    obtain ⟨pl, hpl⟩ : ∃ pl, pl = l.length := ⟨_, rfl⟩
    have hplb : pl ≤ 3000 := by omega
    have HU := Lib.hid (fun w' (h : Grew w1 w') => by
      have := unpack_c w' A1 c1 l 65536 (Kd.C_below hC1 h) hc1 (by omega) hby (by omega) (by omega)
      rw [full_unpack _ l L n 65536 hsz (by omega) htk, hexp] at this
      exact this)
    have HOP := Lib.hid (show w1.ownsRow w.heap.size 5 1 (.slice A1 pl c1) pl (nums .u8 l) from by rw [hpl]; exact hown)
    have hbp : ∀ k, (Value.slice A1 pl c1).ownBlock = some k → w.heap.size ≤ k ∧ k < w1.heap.size := fun k hk => ⟨own_base HOP.out k hk, own_lt HOP.out k hk⟩
    have HBP := Lib.hid hbp
    rw [← hpl]
    rw [← hpl] at HU
    clear hown hby hl hpl hC1 hsz htk hch hexp hlen hc1 hbp
    go_wp2_with fail
    refine (HU.out _ (Grew.refl _)).mono ?_
    rintro e w2 ⟨v2, rfl, ⟨vx, rfl, hox⟩, hg2⟩
    have hox : w2.ownsRow w1.heap.size 5 1 vx n (nums .u8 x) := by rw [HN.out]; exact hox
    obtain ⟨Ax, cx, rfl⟩ := own_slice hox
    have HOX := Lib.hid hox
    have HBX := Lib.hid (fun k (hk : (Value.slice Ax n cx).ownBlock = some k) => show w1.heap.size ≤ k ∧ k < w2.heap.size from ⟨own_base hox k hk, own_lt hox k hk⟩)
    clear hox
    go_wp2_with fail
    refine (HU.out _ hg2).mono ?_
    rintro e w3 ⟨v3, rfl, ⟨vy, rfl, hoy⟩, hg3⟩
    have hoy : w3.ownsRow w2.heap.size 5 1 vy n (nums .u8 x) := by rw [HN.out]; exact hoy
    obtain ⟨Ay, cy, rfl⟩ := own_slice hoy
    have HOY := Lib.hid hoy
    have HBY := Lib.hid (fun k (hk : (Value.slice Ay n cy).ownBlock = some k) => show w2.heap.size ≤ k from own_base hoy k hk)
    clear hoy
    go_wp2_with fail
    go_loopw [9] (fun iv wr => ∃ (j : Nat) (xs : List Int), iv = .int .i64 (j : Int) ∧ j ≤ n ∧ wr.ownsRow w1.heap.size 5 1 (.slice Ax n cx) n (nums .u8 xs) ∧ Upd (fun k => w1.heap.size ≤ k ∧ k < w2.heap.size) w3 wr) (fun iv _ => n - (intOf iv).toNat)
    case atStart => exact ⟨0, x, rfl, Nat.zero_le _, pw_own_below HOX.out hg3, Upd.refl _ _⟩
    case round =>
      obtain ⟨j, xs, rfl, hj, hown, hu⟩ := hrel
      by_cases hjl : j < n
      · have b1 : decide ((j : Int) < (n : Int)) = true := decide_eq_true (by omega)
        have b2 : decide (j < n) = true := decide_eq_true hjl
        have i1 : (j : Int) < (n : Int) := by omega
        obtain ⟨g, cg, hve, -, -, -⟩ := own_head hown (by omega)
        obtain ⟨rfl, -, rfl⟩ := (Value.slice.injEq _ _ _ _ _ _).mp hve
        obtain ⟨q1, f1⟩ := own_atN hown j hjl
        have HO := Lib.hid (fun z => own_storeN hown j z)
        have hw1 : IntKind.i64.wrap ((j : Int) + 1) = (j : Int) + 1 := by rw [IntWalk.i64_in _ (by omega)]
        obtain ⟨u, hu0⟩ : ∃ u, u = xs.getD j 0 := ⟨_, rfl⟩
        rw [← hu0] at q1
        have HGB := Lib.hid (HBX.out g rfl)
        have HUU := Lib.hid hu
        clear hown hve hu0 hu
        go_wp2_with fail
        go_roundw
        case rel => exact ⟨j + 1, _, by go_num, hjl, HO.out _, HUU.out.trans (Upd.set (p := ⟨g, j, none⟩) (Upd.refl _ _) (.inl HGB.out) _)⟩
        case measure => simp [intOf]; omega
      · obtain rfl : j = n := by omega
        have b1 : decide ((j : Int) < (j : Int)) = false := decide_eq_false (by omega)
        have b2 : decide (j < j) = false := decide_eq_false (by omega)
        have HU1 := Lib.hid hu
        have HP1 := Lib.hid (hu.own (pw_own_below HOP.out (hg2.trans hg3)) (fun k hk h => by have := HBP.out k hk; omega))
        have HY1 := Lib.hid (hu.own HOY.out (fun k hk h => by have := HBY.out k hk; omega))
        clear hown hu
        obtain ⟨S, hS⟩ : ∃ S, S = strOfNums x := ⟨_, rfl⟩
        have HCVY := Lib.hid (fun (w' : World) (h : w'.ownsRow w2.heap.size 5 1 (.slice Ay j cy) j (nums .u8 x)) => by
          obtain ⟨Aq, cq, hv, -, hcq, hCq⟩ := own_C h
          have := Kd.C_string (P := Try.prog) (c := cq) Try.underlying25 Try.underlying5 Try.underlying9 hCq
          rw [← hv, ← hS] at this
          exact this)
        have HCVB := Lib.hid (fun w' (h : Grew w w') => by
          have := Kd.C_string (P := Try.prog) (c := c) Try.underlying25 Try.underlying5 Try.underlying9 (Kd.C_below HC.out h)
          rw [← hS] at this
          exact this)
        have e1 : (S.toList == S.toList) = true := by simp
        have HGW := Lib.hid ((Upd.of_grew (S := fun i => w.heap.size ≤ i) (hg1.trans (hg2.trans hg3))).trans (HU1.out.mono fun i _ h => by have := hg1.size; omega))
        clear hS
        go_wp2_with fail
        go_loopw [10] (fun iv wq => ∃ (k : Nat) (ps : List Int), iv = .int .i64 (k : Int) ∧ k ≤ pl ∧ wq.ownsRow w.heap.size 5 1 (.slice A1 pl c1) pl (nums .u8 ps) ∧ Upd (fun i => w.heap.size ≤ i ∧ i < w1.heap.size) wr wq) (fun iv _ => pl - (intOf iv).toNat)
        case atStart => exact ⟨0, l, rfl, Nat.zero_le _, HP1.out, Upd.refl _ _⟩
        case round =>
          rename_i wz
          obtain ⟨k, ps, rfl, hk, hownp, hup⟩ := hrel
          by_cases hkl : k < pl
          · have b3 : decide ((k : Int) < (pl : Int)) = true := decide_eq_true (by omega)
            have b4 : decide (k < pl) = true := decide_eq_true hkl
            have i3 : (k : Int) < (pl : Int) := by omega
            obtain ⟨g, cg, hve, -, -, -⟩ := own_head hownp (by omega)
            obtain ⟨rfl, -, rfl⟩ := (Value.slice.injEq _ _ _ _ _ _).mp hve
            obtain ⟨q1, f1⟩ := own_atN hownp k hkl
            have HO := Lib.hid (fun z => own_storeN hownp k z)
            have hw1 : IntKind.i64.wrap ((k : Int) + 1) = (k : Int) + 1 := by rw [IntWalk.i64_in _ (by omega)]
            obtain ⟨u, hu0⟩ : ∃ u, u = ps.getD k 0 := ⟨_, rfl⟩
            rw [← hu0] at q1
            have HGB := Lib.hid (HBP.out g rfl)
            have HUU := Lib.hid hup
            clear hownp hve hu0 hup
            go_wp2_with fail
            go_roundw
            case rel => exact ⟨k + 1, _, by go_num, hkl, HO.out _, HUU.out.trans (Upd.set (p := ⟨g, k, none⟩) (Upd.refl _ _) (.inl HGB.out) _)⟩
            case measure => simp [intOf]; omega
          · obtain rfl : k = pl := by omega
            have b3 : decide ((k : Int) < (k : Int)) = false := decide_eq_false (by omega)
            have b4 : decide (k < k) = false := decide_eq_false (by omega)
            have hgw := (HGW.out.trans (hup.mono fun i _ h => h.1)).grew (fun i hi h => by omega)
            have hcvy := HCVY.out _ (hup.own HY1.out (fun m hm h => by have := HBY.out m hm; have := hg2.size; omega))
            have hcvb := HCVB.out _ hgw
            clear hownp hup
            go_wp2_with fail
            refine (lives_c _).mono ?_
            rintro e w7 ⟨_, rfl, rfl, hg7⟩
            go_wp2_with fail
            go_ret
            exact ⟨_, rfl, rfl, hgw.trans hg7⟩
end Go.Proofs.Ytehbebpemnanoaa.F

-- RowLzOwn
namespace Go.Proofs.Ytehbebpemnanoaa.lzOwn
open Go.ChangeShapes Go.WideShapes Go.ChangeAt Go.RowKit
open Go.ChangeMaps (open_string shut_string)
set_option linter.unusedVariables false
set_option linter.unusedSimpArgs false
theorem own : ownKnob Try.prog.godebug = none := by kernel_rfl
theorem laidOut : laidOutB Try.prog = true := by kernel_rfl
def IsRow (k : IntKind) (w : World) (a : Option Addr) (len cap : Nat) (zs : List Int) : Prop :=
  (a = none ∧ len = 0 ∧ cap = 0 ∧ zs = []) ∨
  ∃ x, a = some x ∧ len ≤ cap ∧ cap ≤ maxLen ∧ zs.length = cap ∧ (∀ i, i < zs.length → w.cell? (x.add i) = some (.int k (zs.getD i 0))) ∧ ∀ n ∈ zs, (Lit.int k n).wf = true
set_option maxRecDepth 100000 in
theorem lifted (os : Os) (started : os.Started) (H : Type) (enc : TypeId × Value → H) :
    ReturnsInHanded {} Try.checked os 7 .any (Rows.lzOwnSpec.pre6 enc Try.prog Try.f7 Rows.lzOwnRow.domain false) (Rows.lzOwnSpec.post enc Try.prog Try.f7 false true false false) := by
  refine returnsInHanded_of_change_sized (C := Try.checked) own started (by kernel_rfl) Try.func7
    (ChangeSpec.witness6 (enc := enc) (C := Try.checked) false ⟨#[], #[.slice none 0 0], []⟩ 8 (by kernel_rfl) (by kernel_rfl) (by kernel_rfl) (by kernel_rfl)) ?_
  intro W base args ds gs before hval0 hW hcnd hsz0 _
  have hsz : (DataW.weightsEach Try.prog (Try.f7.params.toList ++ Rows.lzOwnSpec.plain.varTypes Try.prog) (ds ++ gs)).all (· ≤ reachBytes) = true := hsz0
  have hval : ∀ (j : Nat) t v, Try.f7.params[j]? = some t → args[j]? = some v → Value.okWide Try.prog W .any base t v := hval0
  have hW' := hW
  obtain ⟨p, q, hA0, hV, rfl, hfz, hnd⟩ := hW
  have hA : DataW.TrodAll enc Try.prog W 0 (fun _ => true) true Try.f7.params.toList args.toList ds p := hA0
  rw [Try.params7] at hA hval hsz
  obtain ⟨v0, vs0, d0, ds0, p0, q0, hargs, rfl, rfl, h0, r0⟩ := trodAll_cons hA
  obtain ⟨rfl, rfl, rfl⟩ := trodAll_nil r0
  obtain rfl : args = #[v0] := by cases args; simp_all
  obtain ⟨rfl, rfl⟩ := trodVars_none hV
  obtain ⟨a0, len0, cap0, rfl⟩ := okWide_slice Try.underlying25 (hval 0 25 v0 rfl rfl)
  have k0 := h0
  have lt0 : ∀ x ∈ p0, x.block < W.heap.size := by obtain ⟨m, hm⟩ := k0; exact DataW.trod_lt m _ _ _ hm
  obtain ⟨z0, w0⟩ : ∃ zs, IsRow .u8 W a0 len0 cap0 zs := by
    obtain ⟨fuel, hf⟩ := h0
    rcases open_ints Try.underlying25 Try.underlying5 (by kernel_rfl) hf with ⟨hcs, _⟩ | ⟨x, l, c, zs, hcs, _, hl, hm, hz, _, hcell, hwz⟩
    · simp [Value.cells] at hcs
      obtain ⟨rfl, rfl, rfl⟩ := hcs
      exact ⟨[], .inl ⟨rfl, rfl, rfl, rfl⟩⟩
    · simp [Value.cells] at hcs
      obtain ⟨rfl, rfl, rfl⟩ := hcs
      exact ⟨zs, .inr ⟨_, rfl, hl, hm, by simpa using hz, hcell, hwz⟩⟩
  have y0 : len0 * 1 ≤ 140737488351232 := Go.Proofs.YtehbebpemnanoaaW.PrintWords.sized_ints hsz (j := 0) (t := 25) rfl rfl Try.underlying25 Try.underlying5 (by kernel_rfl) (by kernel_rfl) h0
  obtain ⟨l0, rfl, hr0, hm0, hw0, hc0⟩ := Go.Proofs.YtehbebpemnanoaaW.PrintWords.ReadsInt.ofRowC w0
  clear hA0 hval0 hsz0 hsz
  refine (Go.Proofs.YtehbebpemnanoaaR.is_tells (Go.Proofs.Ytehbebpemnanoaa.F.LzOwn_c W a0 cap0 l0 (Go.Proofs.YtehbebpemnanoaaW.PrintWords.Kd.C_of_reads (d := (0 : Int)) (h1 := fun _ => rfl) hr0) hc0 hm0 y0 hw0)).mono fun e W' ⟨he, bel⟩ => ?_
  subst he
  exact ⟨_, rfl, _, _, _, [], _, [], hW', trodAll_mk1 (shut_bool Try.underlying4 _), (trodAll_cons_mk (Below.trod laidOut (by kernel_rfl) (of_decide_eq_true (by kernel_rfl)) k0 bel lt0) trodAll_mk0), rfl, bel.frame _, fun h => by cases h⟩
theorem over : Rows.lzOwnRow.holds Try.pinned (OpenSpec.ofChange Rows.lzOwnSpec) :=
  OpenClaim.holds_of_wide 7 Try.f7 rfl rfl rfl rfl rfl rfl rfl ⟨rfl, rfl, rfl, rfl, rfl⟩ rfl rfl rfl rfl rfl (by kernel_rfl) Try.func7 (by kernel_rfl)
    (of_decide_eq_true (by kernel_rfl)) (by unfold Func.isWrapper; first | (rw [if_pos (by decide +kernel)]; kernel_rfl) | (rw [if_neg (by decide +kernel)]; exact ⟨rfl, rfl⟩))
    (fun os started H enc _ => lifted os started H enc)
end Go.Proofs.Ytehbebpemnanoaa.lzOwn
namespace Go.Proofs.Ytehbebpemnanoaa
/-- The row, under a short name, for the claim. -/
theorem lzOwn_holds : Rows.LzOwnSaid := lzOwn.over
#print axioms lzOwn_holds
end Go.Proofs.Ytehbebpemnanoaa
