/- The row of the law ShaNil: for every input the law's call returns true, whatever memory; no condition. Out of the contract ShaNil_c. -/
import Derived.Test.YtphkohdfdkmpcaaSC
import Derived.Test.YtphkohdfdkmpcaaRows
import Derived.WalkKit
import Derived.ProofKit
import Derived.OpenShut
import Derived.ShutString
import Derived.ChangeOld
import Derived.Below
import Derived.SizedLaws
import Derived.Test.YtphkohdfdkmpcaaWSized

-- ShaNil
namespace Go.Proofs.Ytphkohdfdkmpcaa.F
open Go Go.RowKit Go.Proofs.YtphkohdfdkmpcaaW.PrintWords Go.Proofs.YtphkohdfdkmpcaaW.PrintLast Go.Proofs.YtphkohdfdkmpcaaW.PrintMore Go.Proofs.YtphkohdfdkmpcaaR
attribute [local go_sem] max2_int min2_int max_two min_two
set_option linter.unusedSimpArgs false
set_option linter.unusedVariables false
set_option maxRecDepth 100000
theorem wf8 {l : List Int} (h : ∀ x ∈ l, (Lit.int .u8 x).wf = true) : ∀ x ∈ l, 0 ≤ x ∧ x < 256 := fun x hx => by
  have := h x hx
  simp [Lit.wf, IntKind.min, IntKind.max, IntKind.bits, IntKind.signed] at this
  omega
theorem write_nil (w : World) (A : Option Addr) (n c : Nat) : Calls Try.prog 21 #[.pointer none, .slice A n c] w (Tells w (Is (.tuple #[]))) := by
  go_enter Try.func21, Try.ntmps21
  go_wp2_with fail
  go_end0
  exact ⟨_, rfl, rfl, Grew.refl w⟩
theorem sum_nil (w : World) : Calls Try.prog 22 #[.pointer none] w (Tells w (Is (.string ⟨#[]⟩))) := by
  go_enter Try.func22, Try.ntmps22
  go_wp2_with fail
  go_ret
  exact ⟨_, rfl, rfl, Grew.refl w⟩
set_option maxHeartbeats 4000000 in
theorem ShaNil_c (w : World) (A : Option Addr) (c : Nat) (l : List Int) (hr : Kd.C (Kd.int .u8) w A l.length l) (hc : l.length ≤ c) (hm : l.length ≤ 9223372036854775807) (hy : l.length * 1 ≤ 140737488351232) (hw : ∀ x ∈ l, (Lit.int .u8 x).wf = true) :
    Calls Try.prog 8 #[.slice A l.length c] w (Tells w (Is (.bool true))) := by
  have hb := Lib.hid (wf8 hw)
  obtain ⟨n, hn⟩ : ∃ n, n = l.length := ⟨_, rfl⟩
  rw [← hn] at hr hc ⊢
  clear hw hm hy
  by_cases h : 1000 < n
  · have h1 : decide (1000 < n) = true := decide_eq_true h
    have h2 : decide (1000 < (n : Int)) = true := decide_eq_true (by omega)
    clear hn
    go_enter Try.func8, Try.ntmps8
    go_wp2_with fail
    refine (lives_c _).mono ?_
    rintro e w' ⟨_, rfl, rfl, hg⟩
    go_wp2
    go_ret
    exact ⟨_, rfl, rfl, hg⟩
  · have h1 : decide (1000 < n) = false := decide_eq_false h
    have h2 : decide (1000 < (n : Int)) = false := decide_eq_false (by omega)
    have HR := Lib.hid hr
    have HN := Lib.hid hn
    clear hr hn
    go_enter Try.func8, Try.ntmps8
    go_wp2_with fail
    refine (write_nil w A n c).mono ?_
    rintro e w1 ⟨_, rfl, rfl, hg1⟩
    go_wp2_with fail
    refine (new_h w1).mono ?_
    rintro e w2 ⟨_, rfl, ⟨g, rfl, hh⟩, hg2⟩
    go_wp2_with fail
    refine (new_h w2).mono ?_
    rintro e w3 ⟨_, rfl, ⟨g', rfl, hh'⟩, hg3⟩
    go_wp2_with fail
    refine (sum_nil w3).mono ?_
    rintro e w4 ⟨_, rfl, rfl, hg4⟩
    have hgg := Grew.trans (Grew.trans (Grew.trans hg1 hg2) hg3) hg4
    have hlg := hh.low
    have hlg' := hh'.low
    have hltg := hh.cells.lt
    have hw2 := hg2.size
    have hw1 := hg1.size
    have hw4 : w1.heap.size ≤ w4.heap.size := (Grew.trans (Grew.trans hg2 hg3) hg4).size
    have hne : g ≠ g' := by omega
    have hh4 := (hh.grew hg3).grew hg4
    have hh4' := hh'.grew hg4
    have HH := Lib.hid hh4
    have HH' := Lib.hid hh4'
    have HGG := Lib.hid hgg
    clear hh hh' hh4 hh4' hg1 hg2 hg3 hg4 hgg
    have hE := Empty0.new w4 w.heap.size 5 HGG.out.size
    obtain ⟨b, hb1, hb2⟩ := hE
    obtain ⟨rfl⟩ : w4.heap.size = b := by simpa using hb1
    have hgE : Grew w4 (w4.alloc (.cells #[] 5)) := Grew.alloc _ _
    obtain ⟨v1, w5, hrun, hown, hgr5⟩ := app_fresh (P := Try.prog) (k := .u8) (w4.alloc (.cells #[] 5)) w.heap.size 28 5 28 1 Try.underlying28 info5 (by decide) w4.heap.size l A n c hb2 (reads_of (Kd.C_below HR.out (Grew.trans HGG.out hgE))) (Nat.le_trans HGG.out.size hgE.size) (by omega)
    have hg5 := Grew.trans hgE hgr5
    obtain ⟨Am, cm, rfl⟩ := own_slice hown
    rw [← HN.out] at hrun hown
    clear hb1 hb2
    go_wp2_with (at_builtin; refine wpList_app (by rfl) (.tmp 29) (.tmp 30) 28 (by rfl) (by rfl) (by rfl) hrun ?_)
    have hbm : (Value.slice Am n cm).ownBlock ≠ some g := fun he => by
      have := own_ne hown (((HH.out.grew hgE).grew hgr5).cells) (by decide)
      exact this he.symm
    have hbm' : (Value.slice Am n cm).ownBlock ≠ some g' := fun he => by
      have := own_ne hown (((HH'.out.grew hgE).grew hgr5).cells) (by decide)
      exact this he.symm
    have hh5 := HH.out.grew hg5
    have hh5' := HH'.out.grew hg5
    have hg05 := Grew.trans HGG.out hg5
    have hlm := own_lt hown
    have hbase := own_base hown
    have hwr := write_c (l := []) w5 Am cm l hh5 (Nat.le_trans hw4 hg5.size) (fun w' hu => by
      rw [← HN.out]
      exact C_of (own_reads' (hu.own hown (fun k hk hS => hS.elim (fun e => hbm (by rw [hk, e])) (fun e => by simp [Value.ownBlock] at e))))) (by rw [← HN.out]; exact own_le hown) (by rw [← HN.out]; simp; omega) hb.out
    rw [← HN.out] at hwr
    have HW := Lib.hid hwr
    have HO := Lib.hid hown
    clear hwr hown
    refine HW.out.mono ?_
    rintro e w6 ⟨_, rfl, ⟨rfl, rv, hh6, hfr6⟩, hu6⟩
    rw [List.nil_append, show ([] : List Int).length + n = l.length from by rw [← HN.out]; simp] at hh6
    have hown6 := hu6.own HO.out (fun k hk hS => hS.elim (fun e => hbm (by rw [hk, e])) (fun e => by simp [Value.ownBlock] at e))
    have hh6' := hh5'.upd hu6 (fun k hk hS => hk.elim (fun e => hS.elim (fun e2 => hne (e2.symm.trans e)) (fun e2 => by simp [Value.ownBlock] at e2)) (fun e => by simp [Value.ownBlock] at e))
    have hg6 : Grew w w6 := Below.trans hg05 (hu6.below hg05.size (fun k hk => hk.elim (fun e => by rw [e]; omega) (fun e => by simp [Value.ownBlock] at e)))
    have hrvm : ∀ k, rv.ownBlock = some k → (Value.slice Am n cm).ownBlock ≠ some k := fun k hk he => by
      rcases hfr6 k hk with h | h
      · simp [Value.ownBlock] at h
      · have := hlm k he
        omega
    have HO6 := Lib.hid hown6
    have HH6 := Lib.hid hh6
    have HH6' := Lib.hid hh6'
    have HG6 := Lib.hid hg6
    have HRVM := Lib.hid hrvm
    clear hown6 hh6 hh6' hg6 hrvm hu6 hfr6 hh5 hh5' hg05 HW HH HH' HGG HO hgE hgr5 hg5 hrun hlm
    go_wp2_with fail
    go_loopw [7] (fun iv wq => ∃ (i : Nat) (li : List Int), iv = .int .i64 (i : Int) ∧ i ≤ n ∧ wq.ownsRow w.heap.size 5 1 (.slice Am n cm) n (nums .u8 li) ∧ Upd (fun k => (Value.slice Am n cm).ownBlock = some k) w6 wq) (fun iv _ => n - (intOf iv).toNat)
    case atStart => exact ⟨0, l, rfl, by omega, HO6.out, Upd.refl _ _⟩
    case round =>
      obtain ⟨i, li, rfl, hi, ho, hu⟩ := hrel
      by_cases hlt : i < n
      · have d1 : decide ((i : Int) < (n : Int)) = true := decide_eq_true (by omega)
        obtain ⟨gm, cap, he, hgm1, hgm2, hgm3⟩ := own_head ho (by omega)
        obtain ⟨rfl, -, rfl⟩ := Value.slice.inj he
        have i1 : (i : Int) < (n : Int) := by omega
        obtain ⟨c1, c2⟩ := own_atN ho i hlt
        obtain ⟨y, hy⟩ : ∃ y, y = li.getD i 0 := ⟨_, rfl⟩
        rw [← hy] at c1
        obtain ⟨z, hz⟩ : ∃ z, z = Go.bits .xor .u8 y 255 := ⟨_, rfl⟩
        have hz' := hz.symm
        have HO7 := Lib.hid ho
        have HU7 := Lib.hid hu
        clear ho hu hy hz he
        go_wp2_with fail
        go_roundw
        case rel =>
          refine ⟨i + 1, li.set i z, by go_num, by omega, own_storeN HO7.out i z, HU7.out.set (p := ⟨gm, i, none⟩) (.inl rfl) _⟩
        case measure => simp [intOf]; omega
      · have d1 : decide ((i : Int) < (n : Int)) = false := decide_eq_false (by omega)
        have hh7 := HH6.out.upd hu (fun k hk hS => hk.elim (fun e => hbm (by rw [hS, e])) (fun e => HRVM.out k e hS))
        have hh7' := HH6'.out.upd hu (fun k hk hS => hk.elim (fun e => hbm' (by rw [hS, e])) (fun e => by simp [Value.ownBlock] at e))
        have hg7 : Grew w wr := Below.trans HG6.out (hu.below HG6.out.size (fun k hk => hbase k hk))
        have hs1 := sum_c wr hh7 (by rw [← HN.out]; omega)
        have hs2 := fun w' (hg : Grew w w') => sum1_c w' A c n l (Kd.C_below HR.out hg) HN.out.symm hc (by omega) hb.out
        have hs3 := fun w' (hg : Grew wr w') => sum_c (l := []) w' (hh7'.grew hg) (by simp)
        have hs4 := fun w' => sum1_c w' none 0 0 [] (Kd.C_of_reads (d := (0 : Int)) (h1 := fun _ => rfl) (ReadsInt.nil w' .u8)) rfl (Nat.le_refl _) (by omega) (by simp)
        obtain ⟨D, hD⟩ : ∃ D, D = strOfNums (shaL l) := ⟨_, rfl⟩
        obtain ⟨D0, hD0⟩ : ∃ D0, D0 = strOfNums (shaL []) := ⟨_, rfl⟩
        simp only [← hD] at hs1 hs2
        simp only [← hD0] at hs3 hs4
        have HS1 := Lib.hid hs1
        have HS2 := Lib.hid hs2
        have HS3 := Lib.hid hs3
        have HS4 := Lib.hid hs4
        have HG7 := Lib.hid hg7
        clear hs1 hs2 hs3 hs4 hg7 hh7 hh7' hu ho hD hD0
        go_wp2_with fail
        refine HS1.out.mono ?_
        rintro e w8 ⟨_, rfl, rfl, hg8⟩
        go_wp2_with fail
        refine (HS2.out w8 (Grew.trans HG7.out hg8)).mono ?_
        rintro e w9 ⟨_, rfl, rfl, hg9⟩
        go_wp2_with fail
        refine (HS3.out w9 (Grew.trans hg8 hg9)).mono ?_
        rintro e w10 ⟨_, rfl, rfl, hg10⟩
        go_wp2_with fail
        refine (HS4.out w10).mono ?_
        rintro e w11 ⟨_, rfl, rfl, hg11⟩
        go_wp2_with fail
        refine (lives_c w11).mono ?_
        rintro e w12 ⟨_, rfl, rfl, hg12⟩
        go_wp2_with fail
        go_ret
        exact ⟨_, rfl, rfl, Grew.trans (Grew.trans (Grew.trans (Grew.trans (Grew.trans HG7.out hg8) hg9) hg10) hg11) hg12⟩
end Go.Proofs.Ytphkohdfdkmpcaa.F

-- RowShaNil
namespace Go.Proofs.Ytphkohdfdkmpcaa.shaNil
open Go.ChangeShapes Go.WideShapes Go.ChangeAt Go.RowKit
open Go.ChangeMaps (open_string shut_string)
set_option linter.unusedVariables false
set_option linter.unusedSimpArgs false
theorem own : ownKnob Try.prog.godebug = none := by kernel_rfl
theorem laidOut : laidOutB Try.prog = true := by kernel_rfl
def IsRow (k : IntKind) (w : World) (a : Option Addr) (len cap : Nat) (zs : List Int) : Prop :=
  (a = none ∧ len = 0 ∧ cap = 0 ∧ zs = []) ∨
  ∃ x, a = some x ∧ len ≤ cap ∧ cap ≤ maxLen ∧ zs.length = cap ∧ (∀ i, i < zs.length → w.cell? (x.add i) = some (.int k (zs.getD i 0))) ∧ ∀ n ∈ zs, (Lit.int k n).wf = true
set_option maxRecDepth 100000 in
theorem lifted (os : Os) (started : os.Started) (H : Type) (enc : TypeId × Value → H) :
    ReturnsInHanded {} Try.checked os 8 .any (Rows.shaNilSpec.pre6 enc Try.prog Try.f8 Rows.shaNilRow.domain false) (Rows.shaNilSpec.post enc Try.prog Try.f8 false true false false) := by
  refine returnsInHanded_of_change_sized (C := Try.checked) own started (by kernel_rfl) Try.func8
    (ChangeSpec.witness6 (enc := enc) (C := Try.checked) false ⟨#[], #[.slice none 0 0], []⟩ 8 (by kernel_rfl) (by kernel_rfl) (by kernel_rfl) (by kernel_rfl)) ?_
  intro W base args ds gs before hval0 hW hcnd hsz0 _
  have hsz : (DataW.weightsEach Try.prog (Try.f8.params.toList ++ Rows.shaNilSpec.plain.varTypes Try.prog) (ds ++ gs)).all (· ≤ reachBytes) = true := hsz0
  have hval : ∀ (j : Nat) t v, Try.f8.params[j]? = some t → args[j]? = some v → Value.okWide Try.prog W .any base t v := hval0
  have hW' := hW
  obtain ⟨p, q, hA0, hV, rfl, hfz, hnd⟩ := hW
  have hA : DataW.TrodAll enc Try.prog W 0 (fun _ => true) true Try.f8.params.toList args.toList ds p := hA0
  rw [Try.params8] at hA hval hsz
  obtain ⟨v0, vs0, d0, ds0, p0, q0, hargs, rfl, rfl, h0, r0⟩ := trodAll_cons hA
  obtain ⟨rfl, rfl, rfl⟩ := trodAll_nil r0
  obtain rfl : args = #[v0] := by cases args; simp_all
  obtain ⟨rfl, rfl⟩ := trodVars_none hV
  obtain ⟨a0, len0, cap0, rfl⟩ := okWide_slice Try.underlying28 (hval 0 28 v0 rfl rfl)
  have k0 := h0
  have lt0 : ∀ x ∈ p0, x.block < W.heap.size := by obtain ⟨m, hm⟩ := k0; exact DataW.trod_lt m _ _ _ hm
  obtain ⟨z0, w0⟩ : ∃ zs, IsRow .u8 W a0 len0 cap0 zs := by
    obtain ⟨fuel, hf⟩ := h0
    rcases open_ints Try.underlying28 Try.underlying5 (by kernel_rfl) hf with ⟨hcs, _⟩ | ⟨x, l, c, zs, hcs, _, hl, hm, hz, _, hcell, hwz⟩
    · simp [Value.cells] at hcs
      obtain ⟨rfl, rfl, rfl⟩ := hcs
      exact ⟨[], .inl ⟨rfl, rfl, rfl, rfl⟩⟩
    · simp [Value.cells] at hcs
      obtain ⟨rfl, rfl, rfl⟩ := hcs
      exact ⟨zs, .inr ⟨_, rfl, hl, hm, by simpa using hz, hcell, hwz⟩⟩
  have y0 : len0 * 1 ≤ 140737488351232 := Go.Proofs.YtphkohdfdkmpcaaW.PrintWords.sized_ints hsz (j := 0) (t := 28) rfl rfl Try.underlying28 Try.underlying5 (by kernel_rfl) (by kernel_rfl) h0
  obtain ⟨l0, rfl, hr0, hm0, hw0, hc0⟩ := Go.Proofs.YtphkohdfdkmpcaaW.PrintWords.ReadsInt.ofRowC w0
  clear hA0 hval0 hsz0 hsz
  refine (Go.Proofs.YtphkohdfdkmpcaaR.is_tells (Go.Proofs.Ytphkohdfdkmpcaa.F.ShaNil_c W a0 cap0 l0 (Go.Proofs.YtphkohdfdkmpcaaW.PrintWords.Kd.C_of_reads (d := (0 : Int)) (h1 := fun _ => rfl) hr0) hc0 hm0 y0 hw0)).mono fun e W' ⟨he, bel⟩ => ?_
  subst he
  exact ⟨_, rfl, _, _, _, [], _, [], hW', trodAll_mk1 (shut_bool Try.underlying4 _), (trodAll_cons_mk (Below.trod laidOut (by kernel_rfl) (of_decide_eq_true (by kernel_rfl)) k0 bel lt0) trodAll_mk0), rfl, bel.frame _, fun h => by cases h⟩
theorem over : Rows.shaNilRow.holds Try.pinned (OpenSpec.ofChange Rows.shaNilSpec) :=
  OpenClaim.holds_of_wide 8 Try.f8 rfl rfl rfl rfl rfl rfl rfl ⟨rfl, rfl, rfl, rfl, rfl⟩ rfl rfl rfl rfl rfl (by kernel_rfl) Try.func8 (by kernel_rfl)
    (of_decide_eq_true (by kernel_rfl)) (by unfold Func.isWrapper; first | (rw [if_pos (by decide +kernel)]; kernel_rfl) | (rw [if_neg (by decide +kernel)]; exact ⟨rfl, rfl⟩))
    (fun os started H enc _ => lifted os started H enc)
end Go.Proofs.Ytphkohdfdkmpcaa.shaNil
namespace Go.Proofs.Ytphkohdfdkmpcaa
/-- The row, under a short name, for the claim. -/
theorem shaNil_holds : Rows.ShaNilSaid := shaNil.over
#print axioms shaNil_holds
end Go.Proofs.Ytphkohdfdkmpcaa
