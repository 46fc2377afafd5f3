/- The row of the law LinkEnds: for every input the law's call returns true, whatever memory; no condition. Out of the contract LinkEnds_c. -/
import Derived.Test.YteaefambkagpbaaSD
import Derived.SizedLaws
import Derived.ChangeSlices
import Derived.Test.YteaefambkagpbaaRows
import Derived.WalkKit
import Derived.ProofKit
import Derived.OpenShut
import Derived.ShutString
import Derived.ChangeOld
import Derived.Below
import Derived.Lib.SmallJoins

-- LinkEnds
namespace Go.Proofs.Yteaefambkagpbaa.F
open Go Go.RowKit Go.Proofs.YteaefambkagpbaaW.PrintWords Go.Proofs.YteaefambkagpbaaW.PrintLast Go.Proofs.YteaefambkagpbaaW.PrintMore Go.Proofs.YteaefambkagpbaaM Go.Proofs.YteaefambkagpbaaR
attribute [local go_sem] max2_int min2_int max_two min_two
set_option linter.unusedSimpArgs false
set_option linter.unusedVariables false
set_option maxRecDepth 100000
set_option maxHeartbeats 8000000 in
theorem LinkEnds_c (w : World) (A : Option Addr) (c : Nat) (sizes : List Int) (A1 : Option Addr) (c1 : Nat) (ways : List Way) (hr : Kd.C (Kd.int .i64) w A sizes.length sizes) (hc : sizes.length ≤ c) (hm : sizes.length ≤ maxLen) (hy : sizes.length * 8 ≤ 140737488351232) (hw : ∀ x ∈ sizes, (Lit.int .i64 x).wf = true)
    (hr1 : Kd.C k73 w A1 ways.length ways) (hc1 : ways.length ≤ c1) (ok1 : ∀ y ∈ ways, (Lit.int .i64 y.f0).wf = true ∧ (Lit.int .i64 y.f1).wf = true) :
    Calls Try.prog 5 #[.slice A sizes.length c, .slice A1 ways.length c1] w (Tells w (Is (.bool true))) := by
  obtain ⟨L, hL, hl12, hl5⟩ := texts_f sizes
  have HTX := Lib.hid (strongroomlaw26_texts.calls 5016 A c sizes L w hr hc hL)
  have HW := Lib.hid hr1
  obtain ⟨wl, hwl⟩ : ∃ wl, wl = ways.length := ⟨_, rfl⟩
  obtain ⟨sl, hsl⟩ : ∃ sl, sl = sizes.length := ⟨_, rfl⟩
  rw [← hwl] at HW hc1 ⊢
  rw [← hsl] at HTX ⊢
  obtain ⟨ln, hln⟩ : ∃ ln, ln = L.length := ⟨_, rfl⟩
  have hln12 : ln ≤ 12 := by omega
  have HLN := Lib.hid hln
  have HL5 := Lib.hid hl5
  have HWL := Lib.hid hwl
  clear hr hc hm hy hw hr1 ok1 hL hl12 hl5 hwl hsl hln
  go_enter Try.func5, Try.ntmps5
  go_wp2_with fail
  refine HTX.out.mono ?_
  rintro e w1 ⟨v0, rfl, hR, hg1⟩
  obtain ⟨Al, cl, rfl, hcl, hCl⟩ := Kd.R_reads hR
  rw [← HLN.out] at hCl hcl
  have HCL := Lib.hid hCl
  have HG1 := Lib.hid hg1
  clear hR hCl hg1 HTX
  go_wp2_with fail
  rw [← HLN.out]
  go_loopw [5, 7] (fun v5 v7 wr => ∃ i : Nat, v7 = .int .i64 (i : Int) ∧ i ≤ ln ∧ wr.ownsRow w1.heap.size 9 1 v5 (shortM (L.take i)).length (strs (shortM (L.take i))) ∧ Grew w1 wr) (fun _ v7 _ => ln - (intOf v7).toNat)
  case atStart => exact ⟨0, rfl, Nat.zero_le _, by simpa [shortM, strs] using World.ownsRow_nil _ _ _ _, Grew.refl _⟩
  case round =>
    obtain ⟨i, rfl, hi, ho, hgr⟩ := hrel
    obtain ⟨Am, cm, rfl⟩ := own_slice ho
    obtain ⟨n, hn⟩ : ∃ n, n = (shortM (L.take i)).length := ⟨_, rfl⟩
    have hn12 : n ≤ 12 := by
      have h1 := List.length_filter_le (fun m : ByteArray => decide (m.size ≤ 4096)) (L.take i)
      rw [List.length_take] at h1
      have h2 : n ≤ min i L.length := by rw [hn]; exact h1
      omega
    rw [← hn] at ho ⊢
    have HO := Lib.hid ho
    have HGR := Lib.hid hgr
    have HN := Lib.hid hn
    clear ho hgr hn
    by_cases hlt : i < ln
    · have d1 : decide ((i : Int) < (ln : Int)) = true := decide_eq_true (by omega)
      have d1' : decide (i < ln) = true := decide_eq_true hlt
      obtain ⟨x, hx⟩ : ∃ x, L[i]? = some x := ⟨_, List.getElem?_eq_getElem (by rw [← HLN.out]; exact hlt)⟩
      obtain ⟨ad, hA, hcx⟩ := str_at (Kd.C_below HCL.out HGR.out) i x hx
      subst hA
      have htk := shortM_take L i x hx
      have hx5 := HL5.out x (List.mem_of_getElem? hx)
      obtain ⟨xs, hxs⟩ : ∃ xs, xs = x.size := ⟨_, rfl⟩
      have hwi : IntKind.i64.wrap ((i : Int) + 1) = ((i + 1 : Nat) : Int) := by rw [IntWalk.i64_in _ (by omega)]; omega
      by_cases hs : xs ≤ 4096
      · rw [if_pos (by rw [← hxs]; exact hs)] at htk
        obtain ⟨v8, w5, hrun, hown5, hu5, hat5⟩ := app_msg wr w1.heap.size Am n cm (shortM (L.take i)) x HO.out HGR.out.size (by omega)
        have hg5 : Grew w1 w5 := ((Upd.of_grew (S := fun k => (Value.slice Am n cm).ownBlock = some k) HGR.out).trans hu5).grew (fun k hk e => by
          have := own_base HO.out k e
          omega)
        have hown6 : w5.ownsRow w1.heap.size 9 1 v8 (shortM (L.take (i + 1))).length (strs (shortM (L.take (i + 1)))) := by
          rw [htk, List.length_append, List.length_singleton, ← HN.out, show strs (shortM (L.take i) ++ [x]) = strs (shortM (L.take i)) ++ [.string x] from by simp [strs]]
          exact hown5
        have HO6 := Lib.hid hown6
        have HG5 := Lib.hid hg5
        have HRUN := Lib.hid hrun
        have d2 : decide ((xs : Int) ≤ 4096) = true := decide_eq_true (by omega)
        have d2' : decide (xs ≤ 4096) = true := decide_eq_true hs
        have hxs2 : x.size = xs := hxs.symm
        clear hx htk hx5 hxs hown5 hu5 hat5 hg5 hown6 hrun
        go_wp2_with (at_builtin; refine wpList_app (by rfl) (.tmp 26) (.tmp 31) 40 (by rfl) (by rfl) (by rfl) HRUN.out ?_)
        go_roundw
        case rel => exact ⟨i + 1, by rfl, by omega, HO6.out, HG5.out⟩
        case measure => simp [intOf]; omega
      · rw [if_neg (by rw [← hxs]; exact hs)] at htk
        have d2 : decide ((xs : Int) ≤ 4096) = false := decide_eq_false (by omega)
        have d2' : decide (xs ≤ 4096) = false := decide_eq_false hs
        have hxs2 : x.size = xs := hxs.symm
        have HTK := Lib.hid htk
        clear hx htk hx5 hxs
        go_wp2_with fail
        go_roundw
        case rel => exact ⟨i + 1, by rfl, by omega, by rw [HTK.out, ← HN.out]; exact HO.out, HGR.out⟩
        case measure => simp [intOf]; omega
    · have d1 : decide ((i : Int) < (ln : Int)) = false := decide_eq_false (by omega)
      have d1' : decide (i < ln) = false := decide_eq_false hlt
      have hLL : L.take i = L := List.take_of_length_le (by rw [← HLN.out]; omega)
      obtain ⟨l, hl⟩ : ∃ l, l = shortM L := ⟨_, rfl⟩
      have ho := HO.out
      rw [hLL, ← hl] at ho
      have hms : MsgsOk l := by rw [hl]; exact shortM_ok L (by rw [← HLN.out]; exact hln12)
      have hnl : n = l.length := by rw [hl, ← hLL]; exact HN.out
      obtain ⟨Am', cm', he, hll, hncm, hCm⟩ := own_msgs ho
      injection he with he1 he2 he3
      subst he1 he3
      have HCM := Lib.hid hCm
      have HMS := Lib.hid hms
      have HNL := Lib.hid hnl
      have HLI := Lib.hid (lives_c wr)
      have HWR := Lib.hid (Kd.C_below (Kd.C_below HW.out HG1.out) HGR.out)
      clear hLL hl ho hms hnl hll hCm he2
      by_cases h300 : 100 < wl
      · have d2 : decide (100 < (wl : Int)) = true := decide_eq_true (by omega)
        have d2' : decide (100 < wl) = true := decide_eq_true h300
        go_wp2_with fail
        refine HLI.out.mono ?_
        rintro e w3 ⟨_, rfl, rfl, hg3⟩
        go_wp2_with fail
        go_ret
        exact ⟨_, rfl, rfl, Grew.trans HG1.out (Grew.trans HGR.out hg3)⟩
      · have d2 : decide (100 < (wl : Int)) = false := decide_eq_false (by omega)
        have d2' : decide (100 < wl) = false := decide_eq_false h300
        go_wp2_with fail
        refine (snew2_c wr).mono ?_
        rintro e w2 ⟨_, rfl, ⟨g1, rfl, hS⟩, hg2⟩
        go_wp2_with fail
        refine (rnew_c w2).mono ?_
        rintro e w3 ⟨_, rfl, ⟨g, m, rfl, hR⟩, hg3⟩
        have hcar := new_carried_c wr w2 w3 g1 g m l ways 900 Am cm A1 c1 hg2 hg3 hS hR (by rw [← HNL.out]; exact HCM.out) (by rw [← HNL.out]; exact hncm) (by rw [← HWL.out]; exact HWR.out) (by rw [← HWL.out]; exact hc1) HMS.out (by rw [← HWL.out]; omega) (by decide)
        obtain ⟨re1, re2, re3⟩ := run_ends HMS.out ways (by rw [← HWL.out]; omega)
        rw [← HNL.out, ← HWL.out] at hcar
        have HCAR := Lib.hid hcar
        clear hcar hS hR
        go_wp2_with fail
        refine HCAR.out.mono ?_
        rintro e w4 ⟨⟨vs, vw, bp, vb, vp, vk, vt, rfl, hmem⟩, hg4⟩
        obtain ⟨At, ct, rfl, -, hct, hCt⟩ := own_msgs hmem.told
        have hsnd := hmem.snd
        rw [re3] at hsnd
        rw [re1, ← HNL.out] at hct hCt
        rw [re1, re2, ← HNL.out]
        have HSA := Lib.hid (fun wx (hG : Grew w4 wx) => same_c wx At ct Am cm l n HNL.out.symm (Kd.C_below hCt hG) hct (Kd.C_below (Kd.C_below HCM.out hg4) hG) hncm (by omega))
        have HDN := Lib.hid (fun wx (hG : Grew w4 wx) => done_c wx _ _ _ _ _ _ (hsnd.grew hG))
        have HLI4 := Lib.hid (fun wx => lives_c wx)
        have HG4 := Lib.hid hg4
        have HCT := Lib.hid hct
        have HNC := Lib.hid hncm
        clear hmem hCt hg4 HCAR hsnd re1 re2 re3 hct hncm
        go_wp2_with fail
        refine (HSA.out w4 (Grew.refl _)).mono ?_
        rintro e w5 ⟨_, rfl, rfl, hg5⟩
        have hdn := HDN.out w5 hg5
        rw [show decide (([] : List Sd).length = 0) = true from rfl] at hdn
        have HDN5 := Lib.hid hdn
        clear hdn
        go_wp2_with fail
        refine HDN5.out.mono ?_
        rintro e w6 ⟨_, rfl, rfl, hg6⟩
        go_wp2_with fail
        refine (HLI4.out w6).mono ?_
        rintro e w7 ⟨_, rfl, rfl, hg7⟩
        go_wp2_with fail
        go_ret
        exact ⟨_, rfl, rfl, Grew.trans HG1.out (Grew.trans HGR.out (Grew.trans HG4.out (Grew.trans hg5 (Grew.trans hg6 hg7))))⟩
end Go.Proofs.Yteaefambkagpbaa.F

-- WSized
-- PRINTED BY print.sh 35421559b90ae4d0a3588c463048766b98c2df88dd9212a6774a882060cdf62d: not written by this session
-- PRINTED WORDS (module Derived/Print/Sized.lean): go-gate-2's, for the rows of laws over slices: an AI agent of Go's test side, Tue Nov 17 2026; no person has read it. Lean checks it.
namespace Go.Proofs.YteaefambkagpbaaW.PrintWords
open Go.ChangeShapes Go.WideShapes
/-- A row's slice of whole numbers is no longer than its weight allows. -/
theorem sized_ints {H : Type} {enc : TypeId × Value → H} {P : Program} {W : World} {base : Nat} {spare : Nat → Bool} {held : Bool} {t e : TypeId} {k : IntKind} {a : Option Addr} {len cap : Nat} {d : DataW H} {ps : List MemPlace} {ts : List TypeId} {ds : List (DataW H)} {j : Nat}
    (hsz : (DataW.weightsEach P ts ds).all (· ≤ reachBytes) = true) (ht : ts[j]? = some t) (hd : ds[j]? = some d) (hu : P.underlying t = some (.slice e)) (he : P.underlying e = some (.int k)) (hc : P.cellsOf e = 1) {B : Nat} (hB : P.bytesOf e = B)
    (h : DataW.Trod enc P W base spare held t (.slice a len cap) d ps) : len * B ≤ 140737488351232 := by
  obtain ⟨fuel, hf⟩ := h
  rcases open_ints hu he hc hf with ⟨hcs, _⟩ | ⟨x, l, c, zs, hcs, _, hl, _, hz, hx, _, _⟩
  · simp [Value.cells] at hcs
    obtain ⟨rfl, rfl, rfl⟩ := hcs
    simp
  · simp [Value.cells] at hcs
    obtain ⟨rfl, rfl, rfl⟩ := hcs
    obtain ⟨hx, _⟩ := Prod.mk.inj hx
    subst hx
    have z := sized_slice hsz ht hd hu
    rw [hB] at z
    have hl2 : len ≤ zs.length := by
      rw [hz]
      split
      · exact hl
      · exact Nat.le_refl _
    have h1 : (lits (H := H) k (zs.take len)).length + (lits (H := H) k (zs.drop len)).length = zs.length := by
      simp [lits]
      omega
    rw [h1] at z
    exact Nat.le_trans (Nat.mul_le_mul_right _ hl2) z
end Go.Proofs.YteaefambkagpbaaW.PrintWords

-- RowLinkEnds
namespace Go.Proofs.Yteaefambkagpbaa.linkEnds
open Go.ChangeShapes Go.WideShapes Go.ChangeAt Go.RowKit
open Go.ChangeMaps (open_string shut_string)
set_option linter.unusedVariables false
set_option linter.unusedSimpArgs false
theorem own : ownKnob Try.prog.godebug = none := by kernel_rfl
theorem laidOut : laidOutB Try.prog = true := by kernel_rfl
def IsRow (k : IntKind) (w : World) (a : Option Addr) (len cap : Nat) (zs : List Int) : Prop :=
  (a = none ∧ len = 0 ∧ cap = 0 ∧ zs = []) ∨
  ∃ x, a = some x ∧ len ≤ cap ∧ cap ≤ maxLen ∧ zs.length = cap ∧ (∀ i, i < zs.length → w.cell? (x.add i) = some (.int k (zs.getD i 0))) ∧ ∀ n ∈ zs, (Lit.int k n).wf = true
set_option maxRecDepth 100000 in
theorem lifted (os : Os) (started : os.Started) (H : Type) (enc : TypeId × Value → H) :
    ReturnsInHanded {} Try.checked os 5 .any (Rows.linkEndsSpec.pre6 enc Try.prog Try.f5 Rows.linkEndsRow.domain false) (Rows.linkEndsSpec.post enc Try.prog Try.f5 false true false false) := by
  refine returnsInHanded_of_change_sized (C := Try.checked) own started (by kernel_rfl) Try.func5
    (ChangeSpec.witness6 (enc := enc) (C := Try.checked) false ⟨#[], #[.slice none 0 0, .slice none 0 0], []⟩ 8 (by kernel_rfl) (by kernel_rfl) (by kernel_rfl) (by kernel_rfl)) ?_
  intro W base args ds gs before hval0 hW hcnd hsz0 _
  have hsz : (DataW.weightsEach Try.prog (Try.f5.params.toList ++ Rows.linkEndsSpec.plain.varTypes Try.prog) (ds ++ gs)).all (· ≤ reachBytes) = true := hsz0
  have hval : ∀ (j : Nat) t v, Try.f5.params[j]? = some t → args[j]? = some v → Value.okWide Try.prog W .any base t v := hval0
  have hW' := hW
  obtain ⟨p, q, hA0, hV, rfl, hfz, hnd⟩ := hW
  have hA : DataW.TrodAll enc Try.prog W 0 (fun _ => true) true Try.f5.params.toList args.toList ds p := hA0
  rw [Try.params5] at hA hval hsz
  obtain ⟨v0, vs0, d0, ds0, p0, q0, hargs, rfl, rfl, h0, r0⟩ := trodAll_cons hA
  obtain ⟨v1, vs1, d1, ds1, p1, q1, rfl, rfl, rfl, h1, r1⟩ := trodAll_cons r0
  obtain ⟨rfl, rfl, rfl⟩ := trodAll_nil r1
  obtain rfl : args = #[v0, v1] := by cases args; simp_all
  obtain ⟨rfl, rfl⟩ := trodVars_none hV
  obtain ⟨a0, len0, cap0, rfl⟩ := okWide_slice Try.underlying38 (hval 0 38 v0 rfl rfl)
  have k0 := h0
  have lt0 : ∀ x ∈ p0, x.block < W.heap.size := by obtain ⟨m, hm⟩ := k0; exact DataW.trod_lt m _ _ _ hm
  obtain ⟨z0, w0⟩ : ∃ zs, IsRow .i64 W a0 len0 cap0 zs := by
    obtain ⟨fuel, hf⟩ := h0
    rcases open_ints Try.underlying38 Try.underlying3 (by kernel_rfl) hf with ⟨hcs, _⟩ | ⟨x, l, c, zs, hcs, _, hl, hm, hz, _, hcell, hwz⟩
    · simp [Value.cells] at hcs
      obtain ⟨rfl, rfl, rfl⟩ := hcs
      exact ⟨[], .inl ⟨rfl, rfl, rfl, rfl⟩⟩
    · simp [Value.cells] at hcs
      obtain ⟨rfl, rfl, rfl⟩ := hcs
      exact ⟨zs, .inr ⟨_, rfl, hl, hm, by simpa using hz, hcell, hwz⟩⟩
  have y0 : len0 * 8 ≤ 140737488351232 := Go.Proofs.YteaefambkagpbaaW.PrintWords.sized_ints hsz (j := 0) (t := 38) rfl rfl Try.underlying38 Try.underlying3 (by kernel_rfl) (by kernel_rfl) h0
  obtain ⟨l0, rfl, hr0, hm0, hw0, hc0⟩ := Go.Proofs.YteaefambkagpbaaW.PrintWords.ReadsInt.ofRowC w0
  obtain ⟨a1, len1, cap1, rfl⟩ := okWide_slice Try.underlying39 (hval 1 39 v1 rfl rfl)
  have k1 := h1
  have lt1 : ∀ x ∈ p1, x.block < W.heap.size := by obtain ⟨m, hm⟩ := k1; exact DataW.trod_lt m _ _ _ hm
  obtain ⟨x1, ⟨A1, cp1, e1, hc1, hC1⟩, ok1⟩ := Go.Proofs.YteaefambkagpbaaO.opensW_arg (d := (Go.Proofs.YteaefambkagpbaaW.PrintWords.Kd.slice 73 Go.Proofs.Yteaefambkagpbaa.F.k73)) (Go.Proofs.YteaefambkagpbaaO.opensW_slice Try.underlying39 (show Go.Proofs.YteaefambkagpbaaO.OpensW _ _ Go.Proofs.Yteaefambkagpbaa.F.k73 _ from Go.Proofs.YteaefambkagpbaaO.opensW_iso (fun x : Go.Proofs.Yteaefambkagpbaa.F.S73 => (x.f0, x.f1)) (fun p => ⟨p.1, p.2⟩) (fun _ => rfl) (Go.Proofs.YteaefambkagpbaaO.opensW_struct Try.underlying73 (Go.Proofs.YteaefambkagpbaaO.opensF_cons (Go.Proofs.YteaefambkagpbaaO.Opens.w (Go.Proofs.YteaefambkagpbaaO.opens_int Try.underlying3)) (by kernel_rfl) (Go.Proofs.YteaefambkagpbaaO.opensF_one (Go.Proofs.YteaefambkagpbaaO.Opens.w (Go.Proofs.YteaefambkagpbaaO.opens_int Try.underlying3)) (by kernel_rfl))) (by kernel_rfl))) (by kernel_rfl)) hsz (j := 1) (t := 39) rfl rfl h1
  obtain ⟨rfl, rfl, rfl⟩ := Value.slice.inj (List.cons.inj e1).1
  clear hA0 hval0 hsz0 hsz
  refine (Go.Proofs.YteaefambkagpbaaR.is_tells (Go.Proofs.Yteaefambkagpbaa.F.LinkEnds_c W a0 cap0 l0 a1 cap1 x1 (Go.Proofs.YteaefambkagpbaaW.PrintWords.Kd.C_of_reads (d := (0 : Int)) (h1 := fun _ => rfl) hr0) hc0 hm0 y0 hw0 hC1 hc1 ok1)).mono fun e W' ⟨he, bel⟩ => ?_
  subst he
  exact ⟨_, rfl, _, _, _, [], _, [], hW', trodAll_mk1 (shut_bool Try.underlying4 _), (trodAll_cons_mk (Below.trod laidOut (by kernel_rfl) (of_decide_eq_true (by kernel_rfl)) k0 bel lt0) (trodAll_cons_mk (Below.trod laidOut (by kernel_rfl) (of_decide_eq_true (by kernel_rfl)) k1 bel lt1) trodAll_mk0)), rfl, bel.frame _, fun h => by cases h⟩
theorem over : Rows.linkEndsRow.holds Try.pinned (OpenSpec.ofChange Rows.linkEndsSpec) :=
  OpenClaim.holds_of_wide 5 Try.f5 rfl rfl rfl rfl rfl rfl rfl ⟨rfl, rfl, rfl, rfl, rfl⟩ rfl rfl rfl rfl rfl (by kernel_rfl) Try.func5 (by kernel_rfl)
    (of_decide_eq_true (by kernel_rfl)) (by unfold Func.isWrapper; first | (rw [if_pos (by decide +kernel)]; kernel_rfl) | (rw [if_neg (by decide +kernel)]; exact ⟨rfl, rfl⟩))
    (fun os started H enc _ => lifted os started H enc)
end Go.Proofs.Yteaefambkagpbaa.linkEnds
namespace Go.Proofs.Yteaefambkagpbaa
/-- The row, under a short name, for the claim. -/
theorem linkEnds_holds : Rows.LinkEndsSaid := linkEnds.over
#print axioms linkEnds_holds
end Go.Proofs.Yteaefambkagpbaa
