/- The row of the law DeltaOnce: for every input the law's call returns true, whatever memory; no condition. Out of the contract DeltaOnce_c. -/
import Derived.Test.YtimcafohmahapaaSE
import Derived.SizedLaws
import Derived.ChangeSlices
import Derived.Test.YtimcafohmahapaaRows
import Derived.WalkKit
import Derived.ProofKit
import Derived.OpenShut
import Derived.ShutString
import Derived.ChangeOld
import Derived.Below

-- DeltaOnce
namespace Go.Proofs.Ytimcafohmahapaa.F
open Go Go.RowKit Go.Proofs.YtimcafohmahapaaW.PrintWords Go.Proofs.YtimcafohmahapaaW.PrintLast Go.Proofs.YtimcafohmahapaaW.PrintMore Go.Proofs.YtimcafohmahapaaM Go.Proofs.YtimcafohmahapaaR
attribute [local go_sem] max2_int min2_int max_two min_two
set_option linter.unusedSimpArgs false
set_option linter.unusedVariables false
set_option maxRecDepth 100000
theorem decV_fit {l : List Int} (hb : By l) (hl : l.length ≤ 5000) {d : List Pc} (h : decD l = some d) : mayD d = true ∧ encD d = l ∧ Fit d := by
  obtain ⟨h1, h2, h3⟩ := decD_some hb h
  have hm := h1
  unfold mayD at hm
  simp only [Bool.and_eq_true, decide_eq_true_eq] at hm
  have hp := mayDL_ok hm.2 (fun p hp => ⟨(h3 p hp).1, by have := (h3 p hp).2; omega⟩)
  exact ⟨h1, h2.symm, fun p hp' => ⟨hp p hp', by have := (h3 p hp').2; omega⟩⟩
set_option maxHeartbeats 8000000 in
theorem DeltaOnce_c (w : World) (A : Option Addr) (c : Nat) (raw : List Int) (cut : Int) {Q0 Q1 Q2 : Prop} (hr : Kd.C (Kd.int .u8) w A raw.length raw) (hc : raw.length ≤ c) (ok0 : Q0) (ok1 : Q1) (hw : ∀ x ∈ raw, (Lit.int .u8 x).wf = true) (ok2 : Q2) :
    Calls Try.prog 4 #[.slice A raw.length c, .int .i64 cut] w (Tells w (Is (.bool true))) := by
  clear ok0 ok1 ok2
  have hby := bytes_of hw
  have HCA := Lib.hid (fun wx (h : Grew w wx) => Kd.C_below hr h)
  have HDE := Lib.hid (fun wx (h : Grew w wx) (hl : raw.length ≤ 5000) => dec_c A c raw wx (Kd.C_below hr h) hc (by omega) hby)
  have HDC := Lib.hid (fun wx (h : Grew w wx) (m : Nat) (hm : m ≤ raw.length) (hl : raw.length ≤ 5000) => show Calls Try.prog 10 #[.slice A m c] wx (Tells wx (DecT (decV (raw.take m)))) from by
    have h9 := dec_c A c (raw.take m) wx (by rw [List.length_take, Nat.min_eq_left hm]; exact C_takeS (Kd.C_below hr h) hm) (by rw [List.length_take]; omega) (by rw [List.length_take]; omega) (fun x hx => hby x (List.mem_of_mem_take hx))
    rw [List.length_take, Nat.min_eq_left hm] at h9
    exact h9)
  have HST := Lib.hid (fun wx (h : Grew w wx) => Kd.C_string (P := Try.prog) (c := c) Try.underlying23 Try.underlying5 Try.underlying9 (Kd.C_below hr h))
  have HBY := Lib.hid hby
  obtain ⟨n, hn⟩ : ∃ n, n = raw.length := ⟨_, rfl⟩
  have HN := Lib.hid hn
  obtain ⟨RS, hRS⟩ : ∃ RS, RS = strOfNums raw := ⟨_, rfl⟩
  rw [← hn] at HCA HDE HDC hc ⊢
  rw [← hn, ← hRS] at HST
  have HRS := Lib.hid hRS
  clear hr hw hby hn hRS
  by_cases h5 : 5000 < n
  · have d1 : decide (5000 < (n : Int)) = true := decide_eq_true (by omega)
    have d2 : decide (5000 < n) = true := decide_eq_true h5
    go_enter Try.func4, Try.ntmps4
    go_wp2_with fail
    refine (lives_c w).mono ?_
    rintro e w2 ⟨_, rfl, rfl, hg2⟩
    go_wp2_with fail
    go_ret
    exact ⟨_, rfl, rfl, hg2⟩
  · have d1 : decide (5000 < (n : Int)) = false := decide_eq_false (by omega)
    have d2 : decide (5000 < n) = false := decide_eq_false h5
    have hn5 : n ≤ 5000 := by omega
    have HDE := Lib.hid (fun wx (h : Grew w wx) => HDE.out wx h hn5)
    have hdv : decV raw = resD (decD raw) := by unfold decV; rw [if_neg (by rw [← HN.out]; omega)]
    rw [hdv] at HDE
    go_enter Try.func4, Try.ntmps4
    go_wp2_with fail
    clear d1 d2
    cases hd : decD raw with
    | none =>
      rw [hd] at HDE
      clear hd
      refine (HDE.out w (Grew.refl _)).mono ?_
      rintro e w2 ⟨_, rfl, ⟨A2, c2, rfl, hc2, hC2⟩, hg2⟩
      simp only [resD, List.length_nil] at hc2 ⊢
      clear hC2
      go_wp2_with fail
      refine (lives_c w2).mono ?_
      rintro e w3 ⟨_, rfl, rfl, hg3⟩
      go_wp2_with fail
      go_ret
      exact ⟨_, rfl, rfl, Grew.trans hg2 hg3⟩
    | some L =>
      obtain ⟨hm, he, hf⟩ := decV_fit HBY.out (by rw [← HN.out]; exact hn5) hd
      have hen : encV L = (raw, 0) := by unfold encV; rw [hm, he]; rfl
      have hcutN : ∀ m : Nat, m < n → decV (raw.take m) = ([], 4) := by
        intro m hmn
        have h9 := decD_cut HBY.out (by rw [← HN.out]; omega) hd (k := m) (by rw [← HN.out]; exact hmn)
        unfold decV
        rw [if_neg (by rw [List.length_take]; omega), h9]; rfl
      have HCN := Lib.hid hcutN
      rw [hd] at HDE
      obtain ⟨kl, hkl⟩ : ∃ kl, kl = L.length := ⟨_, rfl⟩
      have HKL := Lib.hid hkl
      have HEN := Lib.hid (fun wx A2 c2 (h : Kd.C k43 wx A2 L.length L) (hc2 : L.length ≤ c2) => encode_c A2 c2 L wx h hc2 (fun _ => hf))
      rw [hen] at HEN
      clear hd hm he hf hen hcutN hkl
      refine (HDE.out w (Grew.refl _)).mono ?_
      rintro e w2 ⟨_, rfl, ⟨A2, c2, rfl, hc2, hC2⟩, hg2⟩
      simp only [resD] at hc2 hC2 ⊢
      have HE2 := Lib.hid (HEN.out w2 A2 c2 hC2 hc2)
      rw [← HKL.out] at HE2 ⊢
      clear hc2 hC2
      go_wp2_with fail
      refine HE2.out.mono ?_
      rintro e w3 ⟨_, rfl, ⟨_, rfl, ⟨A9, c9, rfl, hc9, hC9⟩⟩, hg3⟩
      simp only at hc9 hC9 ⊢
      rw [← HN.out] at hc9 hC9 ⊢
      have s1 := Kd.C_string (P := Try.prog) (c := c9) Try.underlying23 Try.underlying5 Try.underlying9 hC9
      rw [← HRS.out] at s1
      have hg03 := Grew.trans hg2 hg3
      have s2 := HST.out w3 hg03
      have s3 : (RS.toList != RS.toList) = false := by simp
      have HG3 := Lib.hid hg03
      clear hC9 hg2 hg3 hg03
      by_cases hneg : cut < 0
      · have c1 : decide (cut < 0) = true := decide_eq_true hneg
        go_wp2_with fail
        refine (lives_c w3).mono ?_
        rintro e w4 ⟨_, rfl, rfl, hg4⟩
        go_wp2_with fail
        go_ret
        exact ⟨_, rfl, rfl, Grew.trans HG3.out hg4⟩
      · obtain ⟨m, rfl⟩ := Int.eq_ofNat_of_zero_le (show 0 ≤ cut by omega)
        have c1 : decide ((m : Int) < 0) = false := decide_eq_false hneg
        by_cases hge : n ≤ m
        · have c2' : decide ((n : Int) ≤ (m : Int)) = true := decide_eq_true (by omega)
          have c3 : decide (n ≤ m) = true := decide_eq_true hge
          go_wp2_with fail
          refine (lives_c w3).mono ?_
          rintro e w4 ⟨_, rfl, rfl, hg4⟩
          go_wp2_with fail
          go_ret
          exact ⟨_, rfl, rfl, Grew.trans HG3.out hg4⟩
        · have c2' : decide ((n : Int) ≤ (m : Int)) = false := decide_eq_false (by omega)
          have c3 : decide (n ≤ m) = false := decide_eq_false hge
          have mc : (m : Int) ≤ (c : Int) := by omega
          have mc' : m ≤ c := by omega
          have HCU := Lib.hid (HDC.out w3 HG3.out m (by omega) hn5)
          rw [HCN.out m (by omega)] at HCU
          go_wp2_with fail
          clear s1 s2 s3
          refine HCU.out.mono ?_
          rintro e w4 ⟨_, rfl, ⟨A5, c5, rfl, hc5, -⟩, hg4⟩
          simp only [List.length_nil] at hc5 ⊢
          go_wp2_with fail
          refine (lives_c w4).mono ?_
          rintro e w5 ⟨_, rfl, rfl, hg5⟩
          go_wp2_with fail
          go_ret
          exact ⟨_, rfl, rfl, Grew.trans HG3.out (Grew.trans hg4 hg5)⟩
end Go.Proofs.Ytimcafohmahapaa.F

-- WSized
-- PRINTED BY print.sh 35421559b90ae4d0a3588c463048766b98c2df88dd9212a6774a882060cdf62d: not written by this session
-- PRINTED WORDS (module Derived/Print/Sized.lean): go-gate-2's, for the rows of laws over slices: an AI agent of Go's test side, Tue Nov 17 2026; no person has read it. Lean checks it.
namespace Go.Proofs.YtimcafohmahapaaW.PrintWords
open Go.ChangeShapes Go.WideShapes
/-- A row's slice of whole numbers is no longer than its weight allows. -/
theorem sized_ints {H : Type} {enc : TypeId × Value → H} {P : Program} {W : World} {base : Nat} {spare : Nat → Bool} {held : Bool} {t e : TypeId} {k : IntKind} {a : Option Addr} {len cap : Nat} {d : DataW H} {ps : List MemPlace} {ts : List TypeId} {ds : List (DataW H)} {j : Nat}
    (hsz : (DataW.weightsEach P ts ds).all (· ≤ reachBytes) = true) (ht : ts[j]? = some t) (hd : ds[j]? = some d) (hu : P.underlying t = some (.slice e)) (he : P.underlying e = some (.int k)) (hc : P.cellsOf e = 1) {B : Nat} (hB : P.bytesOf e = B)
    (h : DataW.Trod enc P W base spare held t (.slice a len cap) d ps) : len * B ≤ 140737488351232 := by
  obtain ⟨fuel, hf⟩ := h
  rcases open_ints hu he hc hf with ⟨hcs, _⟩ | ⟨x, l, c, zs, hcs, _, hl, _, hz, hx, _, _⟩
  · simp [Value.cells] at hcs
    obtain ⟨rfl, rfl, rfl⟩ := hcs
    simp
  · simp [Value.cells] at hcs
    obtain ⟨rfl, rfl, rfl⟩ := hcs
    obtain ⟨hx, _⟩ := Prod.mk.inj hx
    subst hx
    have z := sized_slice hsz ht hd hu
    rw [hB] at z
    have hl2 : len ≤ zs.length := by
      rw [hz]
      split
      · exact hl
      · exact Nat.le_refl _
    have h1 : (lits (H := H) k (zs.take len)).length + (lits (H := H) k (zs.drop len)).length = zs.length := by
      simp [lits]
      omega
    rw [h1] at z
    exact Nat.le_trans (Nat.mul_le_mul_right _ hl2) z
end Go.Proofs.YtimcafohmahapaaW.PrintWords

-- RowDeltaOnce
namespace Go.Proofs.Ytimcafohmahapaa.deltaOnce
open Go.ChangeShapes Go.WideShapes Go.ChangeAt Go.RowKit
open Go.ChangeMaps (open_string shut_string)
set_option linter.unusedVariables false
set_option linter.unusedSimpArgs false
theorem own : ownKnob Try.prog.godebug = none := by kernel_rfl
theorem laidOut : laidOutB Try.prog = true := by kernel_rfl
def IsRow (k : IntKind) (w : World) (a : Option Addr) (len cap : Nat) (zs : List Int) : Prop :=
  (a = none ∧ len = 0 ∧ cap = 0 ∧ zs = []) ∨
  ∃ x, a = some x ∧ len ≤ cap ∧ cap ≤ maxLen ∧ zs.length = cap ∧ (∀ i, i < zs.length → w.cell? (x.add i) = some (.int k (zs.getD i 0))) ∧ ∀ n ∈ zs, (Lit.int k n).wf = true
set_option maxRecDepth 100000 in
theorem lifted (os : Os) (started : os.Started) (H : Type) (enc : TypeId × Value → H) :
    ReturnsInHanded {} Try.checked os 4 .any (Rows.deltaOnceSpec.pre6 enc Try.prog Try.f4 Rows.deltaOnceRow.domain false) (Rows.deltaOnceSpec.post enc Try.prog Try.f4 false true false false) := by
  refine returnsInHanded_of_change_sized (C := Try.checked) own started (by kernel_rfl) Try.func4
    (ChangeSpec.witness6 (enc := enc) (C := Try.checked) false ⟨#[], #[.slice none 0 0, .int .i64 0], []⟩ 8 (by kernel_rfl) (by kernel_rfl) (by kernel_rfl) (by kernel_rfl)) ?_
  intro W base args ds gs before hval0 hW hcnd hsz0 _
  have hsz : (DataW.weightsEach Try.prog (Try.f4.params.toList ++ Rows.deltaOnceSpec.plain.varTypes Try.prog) (ds ++ gs)).all (· ≤ reachBytes) = true := hsz0
  have hval : ∀ (j : Nat) t v, Try.f4.params[j]? = some t → args[j]? = some v → Value.okWide Try.prog W .any base t v := hval0
  have hW' := hW
  obtain ⟨p, q, hA0, hV, rfl, hfz, hnd⟩ := hW
  have hA : DataW.TrodAll enc Try.prog W 0 (fun _ => true) true Try.f4.params.toList args.toList ds p := hA0
  rw [Try.params4] at hA hval hsz
  obtain ⟨v0, vs0, d0, ds0, p0, q0, hargs, rfl, rfl, h0, r0⟩ := trodAll_cons hA
  obtain ⟨v1, vs1, d1, ds1, p1, q1, rfl, rfl, rfl, h1, r1⟩ := trodAll_cons r0
  obtain ⟨rfl, rfl, rfl⟩ := trodAll_nil r1
  obtain rfl : args = #[v0, v1] := by cases args; simp_all
  obtain ⟨rfl, rfl⟩ := trodVars_none hV
  obtain ⟨a0, len0, cap0, rfl⟩ := okWide_slice Try.underlying23 (hval 0 23 v0 rfl rfl)
  have k0 := h0
  have lt0 : ∀ x ∈ p0, x.block < W.heap.size := by obtain ⟨m, hm⟩ := k0; exact DataW.trod_lt m _ _ _ hm
  obtain ⟨z0, w0⟩ : ∃ zs, IsRow .u8 W a0 len0 cap0 zs := by
    obtain ⟨fuel, hf⟩ := h0
    rcases open_ints Try.underlying23 Try.underlying5 (by kernel_rfl) hf with ⟨hcs, _⟩ | ⟨x, l, c, zs, hcs, _, hl, hm, hz, _, hcell, hwz⟩
    · simp [Value.cells] at hcs
      obtain ⟨rfl, rfl, rfl⟩ := hcs
      exact ⟨[], .inl ⟨rfl, rfl, rfl, rfl⟩⟩
    · simp [Value.cells] at hcs
      obtain ⟨rfl, rfl, rfl⟩ := hcs
      exact ⟨zs, .inr ⟨_, rfl, hl, hm, by simpa using hz, hcell, hwz⟩⟩
  have y0 : len0 * 1 ≤ 140737488351232 := Go.Proofs.YtimcafohmahapaaW.PrintWords.sized_ints hsz (j := 0) (t := 23) rfl rfl Try.underlying23 Try.underlying5 (by kernel_rfl) (by kernel_rfl) h0
  obtain ⟨l0, rfl, hr0, hm0, hw0, hc0⟩ := Go.Proofs.YtimcafohmahapaaW.PrintWords.ReadsInt.ofRowC w0
  obtain ⟨a1, rfl, rfl, rfl, w1⟩ := open_int Try.underlying3 (hval 1 3 v1 rfl rfl) h1
  clear hA0 hval0 hsz0 hsz
  refine (Go.Proofs.YtimcafohmahapaaR.is_tells (Go.Proofs.Ytimcafohmahapaa.F.DeltaOnce_c W a0 cap0 l0 a1 (Go.Proofs.YtimcafohmahapaaW.PrintWords.Kd.C_of_reads (d := (0 : Int)) (h1 := fun _ => rfl) hr0) hc0 hm0 y0 hw0 w1)).mono fun e W' ⟨he, bel⟩ => ?_
  subst he
  exact ⟨_, rfl, _, _, _, [], _, [], hW', trodAll_mk1 (shut_bool Try.underlying4 _), (trodAll_cons_mk (Below.trod laidOut (by kernel_rfl) (of_decide_eq_true (by kernel_rfl)) k0 bel lt0) (trodAll_cons_mk (shut_int Try.underlying3 w1) trodAll_mk0)), rfl, bel.frame _, fun h => by cases h⟩
theorem over : Rows.deltaOnceRow.holds Try.pinned (OpenSpec.ofChange Rows.deltaOnceSpec) :=
  OpenClaim.holds_of_wide 4 Try.f4 rfl rfl rfl rfl rfl rfl rfl ⟨rfl, rfl, rfl, rfl, rfl⟩ rfl rfl rfl rfl rfl (by kernel_rfl) Try.func4 (by kernel_rfl)
    (of_decide_eq_true (by kernel_rfl)) (by unfold Func.isWrapper; first | (rw [if_pos (by decide +kernel)]; kernel_rfl) | (rw [if_neg (by decide +kernel)]; exact ⟨rfl, rfl⟩))
    (fun os started H enc _ => lifted os started H enc)
end Go.Proofs.Ytimcafohmahapaa.deltaOnce
namespace Go.Proofs.Ytimcafohmahapaa
/-- The row, under a short name, for the claim. -/
theorem deltaOnce_holds : Rows.DeltaOnceSaid := deltaOnce.over
#print axioms deltaOnce_holds
end Go.Proofs.Ytimcafohmahapaa
