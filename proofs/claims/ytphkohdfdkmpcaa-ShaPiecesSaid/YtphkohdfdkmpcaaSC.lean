/- Texts of this seat laid together: ShaY, ShaL, ShaR, ShaJ, Open, OpenW. -/
import Derived.Test.YtphkohdfdkmpcaaSB
import Derived.Test.YtphkohdfdkmpcaaSA
import Derived.Lib.Bytes
import Derived.Test.YtphkohdfdkmpcaaWArr
import Derived.SizedLaws
import Derived.ChangeSlices
import Derived.WideKeyArr2
import Derived.WalkKit
import Derived.ProofKit
import Derived.OpenShut

-- ShaY
namespace Go.Proofs.Ytphkohdfdkmpcaa.F
open Go Go.RowKit Go.Proofs.YtphkohdfdkmpcaaW.PrintWords Go.Proofs.YtphkohdfdkmpcaaW.PrintLast Go.Proofs.YtphkohdfdkmpcaaW.PrintMore Go.Proofs.YtphkohdfdkmpcaaR
attribute [local go_sem] max2_int min2_int max_two min_two
set_option linter.unusedSimpArgs false
set_option linter.unusedVariables false
set_option maxRecDepth 100000
/-- the world of the reference's mixing: the words, the state, the result and the schedule lie in four blocks of its own -/
structure MixR (w : World) (ks s x : List Nat) (wr : World) : Prop where
  bk : Blk wr w.heap.size 45 (wcells ks)
  b0 : Blk wr (w.heap.size + 1) 40 (wcells s)
  b1 : Blk wr (w.heap.size + 1 + 1) 40 (wcells (List.replicate 8 0))
  b2 : Blk wr (w.heap.size + 1 + 1 + 1) 45 (wcells x)
  gr : Grew w wr
theorem MixR.grew {w : World} {ks s x : List Nat} {wr w' : World} (h : MixR w ks s x wr) (hg : Grew wr w') : MixR w ks s x w' := ⟨h.bk.grew hg, h.b0.grew hg, h.b1.grew hg, h.b2.grew hg, h.gr.trans hg⟩
theorem MixR.set2 {w : World} {ks s x : List Nat} {wr : World} (h : MixR w ks s x wr) (i v : Nat) : MixR w ks s (x.set i v) (wr.setCell ⟨w.heap.size + 1 + 1 + 1, i, none⟩ (.int .u32 (v : Int))) :=
  ⟨h.bk.far (by simp <;> omega) _, h.b0.far (by simp <;> omega) _, h.b1.far (by simp) _, by rw [← wcells_set]; exact h.b2.set i _, Grew.setCell_new h.gr (by simp <;> omega) _⟩
theorem MixR.set0 {w : World} {ks s x : List Nat} {wr : World} (h : MixR w ks s x wr) (i v : Nat) : MixR w ks (s.set i v) x (wr.setCell ⟨w.heap.size + 1, i, none⟩ (.int .u32 (v : Int))) :=
  ⟨h.bk.far (by simp) _, by rw [← wcells_set]; exact h.b0.set i _, h.b1.far (by simp) _, h.b2.far (by simp <;> omega) _, Grew.setCell_new h.gr (by simp) _⟩
/-- .. and the rounds' words in a fifth one -/
structure MixZ (w : World) (ks s x z : List Nat) (gz : Nat) (wr : World) : Prop where
  m : MixR w ks s x wr
  bz : Blk wr gz 40 (wcells z)
  hg : w.heap.size + 1 + 1 + 1 < gz
theorem MixR.row {w : World} {ks s x : List Nat} {wr : World} (h : MixR w ks s x wr) {gz : Nat} (hg : w.heap.size + 1 + 1 + 1 < gz) (c : Array Value) : MixR w ks s x (wr.setRow gz c) :=
  ⟨h.bk.farRow (by omega) _, h.b0.farRow (by omega) _, h.b1.farRow (by omega) _, h.b2.farRow (by omega) _, Grew.setRow h.gr (by omega) _⟩
theorem MixZ.grew {w : World} {ks s x z : List Nat} {gz : Nat} {wr w' : World} (h : MixZ w ks s x z gz wr) (hg : Grew wr w') : MixZ w ks s x z gz w' := ⟨h.m.grew hg, h.bz.grew hg, h.hg⟩
theorem MixZ.setz {w : World} {ks s x z : List Nat} {gz : Nat} {wr : World} (h : MixZ w ks s x z gz wr) (z' : List Nat) : MixZ w ks s x z' gz (wr.setRow gz (wcells z').toArray) :=
  ⟨h.m.row h.hg _, h.bz.setRow _, h.hg⟩
theorem MixZ.set0 {w : World} {ks s x z : List Nat} {gz : Nat} {wr : World} (h : MixZ w ks s x z gz wr) (i v : Nat) : MixZ w ks (s.set i v) x z gz (wr.setCell ⟨w.heap.size + 1, i, none⟩ (.int .u32 (v : Int))) :=
  ⟨h.m.set0 i v, h.bz.far (by have := h.hg; simp; omega) _, h.hg⟩
theorem notr {e : Nat} (h : e < 4294967296) : IntKind.u32.wrap (4294967295 - (e : Int)) = ((notW e : Nat) : Int) := by rw [IntWalk.u32_in _ (by omega)]; unfold notW; omega
theorem rturn_n (a : Nat) (m : Int) (n : Nat) (hm : m = (n : Int)) (ha : a < 4294967296) (h1 : 1 ≤ n) (h2 : n ≤ 31) (w : World) : Calls Try.prog 33 #[.int .u32 (a : Int), .int .u64 m] w (Tells w (Is (.int .u32 ((rotW a n : Nat) : Int)))) := by
  subst hm; exact rturn_c a n ha h1 h2 w
theorem str_at (l : List Int) (hl : ∀ x ∈ l, 0 ≤ x ∧ x < 256) (i : Nat) (h : i < (strOfNums l).size) : ((strOfNums l)[i]).toNat = byteN l i := by
  have h1 : i < l.length := by rw [← str_size l]; exact h
  have h2 := hl _ (List.getElem_mem h1)
  unfold byteN
  rw [List.getD_eq_getElem?_getD, List.getElem?_eq_getElem h1]
  show ((strOfNums l).data[i]).toNat = _
  simp only [strOfNums, Option.getD_some]
  rw [List.getElem_toArray, List.getElem_map]
  rw [UInt8.toNat_ofNat']
  omega
set_option maxHeartbeats 4000000 in
theorem rmix_c (w : World) (ks s : List Nat) (l : List Int) (hkl : ks.length = 64) (hkw : words ks) (hsl : s.length = 8) (hsw : words s) (hl : l.length = 64) (hlb : ∀ x ∈ l, 0 ≤ x ∧ x < 256) :
    Calls Try.prog 24 #[.agg (wcells ks).toArray, .agg (wcells s).toArray, .string (strOfNums l)] w (Tells w (Is (.agg (wcells (mixL ks s l)).toArray))) := by
  obtain ⟨B, hBs, hB⟩ : ∃ B : ByteArray, strOfNums l = B ∧ ∀ i (h : i < B.size), (B[i]).toNat = byteN l i := ⟨_, rfl, str_at l hlb⟩
  have hBl : B.size = 64 := by rw [← hBs, str_size, hl]
  rw [hBs]
  clear hBs
  have hix : ∀ i : Nat, i < 64 → ∀ w', Sem.run Try.prog (Instr.index 9 (.string B) (.int .i64 (i : Int))) w' = .ok (.int .u8 ((byteN l i : Nat) : Int)) w' := by
    intro i hi w'
    rw [run_index_string w' _ B .i64 _ (by rfl), dif_pos (by omega)]
    congr 2
    rw [← hB i (by omega)]; rfl
  clear hB hBl
  go_enter Try.func24, Try.ntmps24
  go_wp2_with fail
  rw [zeros8, zeros64]
  have hm0 : MixR w ks s (arr64 []) ((((w.alloc (.cells (wcells ks).toArray 45)).alloc (.cells (wcells s).toArray 40)).alloc (.cells (wcells (List.replicate 8 0)).toArray 40)).alloc (.cells (wcells (arr64 [])).toArray 45)) :=
    ⟨(((Blk.new w _ _).grew (Grew.alloc _ _)).grew (Grew.alloc _ _)).grew (Grew.alloc _ _), by simpa using ((Blk.new (w.alloc (.cells (wcells ks).toArray 45)) 40 (wcells s)).grew (Grew.alloc _ _)).grew (Grew.alloc _ _), by simpa using (Blk.new ((w.alloc (.cells (wcells ks).toArray 45)).alloc (.cells (wcells s).toArray 40)) 40 (wcells (List.replicate 8 0))).grew (Grew.alloc _ _), by simpa using Blk.new (((w.alloc (.cells (wcells ks).toArray 45)).alloc (.cells (wcells s).toArray 40)).alloc (.cells (wcells (List.replicate 8 0)).toArray 40)) 45 (wcells (arr64 [])), (((Grew.alloc _ _).trans (Grew.alloc _ _)).trans (Grew.alloc _ _)).trans (Grew.alloc _ _)⟩
  obtain ⟨W, hW⟩ : ∃ W, W = ((((w.alloc (.cells (wcells ks).toArray 45)).alloc (.cells (wcells s).toArray 40)).alloc (.cells (wcells (List.replicate 8 0)).toArray 40)).alloc (.cells (wcells (arr64 [])).toArray 45)) := ⟨_, rfl⟩
  rw [← hW] at hm0 ⊢
  clear hW
  go_loopw [8] (fun iv wr => ∃ t : Nat, iv = .int .i64 (t : Int) ∧ t ≤ 16 ∧ MixR w ks s (arr64 (ws l t)) wr) (fun iv _ => 16 - (intOf iv).toNat)
  case atStart => exact ⟨0, rfl, by omega, hm0⟩
  case round =>
    obtain ⟨t, rfl, ht, hm⟩ := hrel
    clear hm0
    by_cases hlt : t < 16
    · have d1 : decide ((t : Int) < 16) = true := decide_eq_true (by omega)
      obtain ⟨n0, hn0⟩ : ∃ n, n = 4 * t := ⟨_, rfl⟩
      obtain ⟨n1, hn1⟩ : ∃ n, n = 4 * t + 1 := ⟨_, rfl⟩
      obtain ⟨n2, hn2⟩ : ∃ n, n = 4 * t + 2 := ⟨_, rfl⟩
      obtain ⟨n3, hn3⟩ : ∃ n, n = 4 * t + 3 := ⟨_, rfl⟩
      have e0 : IntKind.i64.wrap (4 * (t : Int)) = (n0 : Int) := by rw [IntWalk.i64_in _ (by omega)]; omega
      have e1 : IntKind.i64.wrap ((n0 : Int) + 1) = (n1 : Int) := by rw [IntWalk.i64_in _ (by omega)]; omega
      have e2 : IntKind.i64.wrap ((n0 : Int) + 2) = (n2 : Int) := by rw [IntWalk.i64_in _ (by omega)]; omega
      have e3 : IntKind.i64.wrap ((n0 : Int) + 3) = (n3 : Int) := by rw [IntWalk.i64_in _ (by omega)]; omega
      have I0 := hix n0 (by omega)
      have I1 := hix n1 (by omega)
      have I2 := hix n2 (by omega)
      have I3 := hix n3 (by omega)
      have k0 := byteN_lt hlb n0
      have k1 := byteN_lt hlb n1
      have k2 := byteN_lt hlb n2
      have k3 := byteN_lt hlb n3
      have hbe : be32 l t = byteN l n0 * 16777216 + byteN l n1 * 65536 + byteN l n2 * 256 + byteN l n3 := by rw [hn0, hn1, hn2, hn3]; rfl
      obtain ⟨v0, hv0⟩ : ∃ v, v = byteN l n0 := ⟨_, rfl⟩
      obtain ⟨v1, hv1⟩ : ∃ v, v = byteN l n1 := ⟨_, rfl⟩
      obtain ⟨v2, hv2⟩ : ∃ v, v = byteN l n2 := ⟨_, rfl⟩
      obtain ⟨v3, hv3⟩ : ∃ v, v = byteN l n3 := ⟨_, rfl⟩
      rw [← hv0] at I0 k0 hbe
      rw [← hv1] at I1 k1 hbe
      rw [← hv2] at I2 k2 hbe
      rw [← hv3] at I3 k3 hbe
      obtain ⟨p0, hp0⟩ : ∃ p, p = v0 * 16777216 := ⟨_, rfl⟩
      obtain ⟨p1, hp1⟩ : ∃ p, p = v1 * 65536 := ⟨_, rfl⟩
      obtain ⟨p2, hp2⟩ : ∃ p, p = v2 * 256 := ⟨_, rfl⟩
      have g0 : IntKind.u32.wrap ((v0 : Int) * 16777216) = (p0 : Int) := by rw [IntWalk.u32_in _ (by omega)]; omega
      have g1 : IntKind.u32.wrap ((v1 : Int) * 65536) = (p1 : Int) := by rw [IntWalk.u32_in _ (by omega)]; omega
      have g2 : IntKind.u32.wrap ((v2 : Int) * 256) = (p2 : Int) := by rw [IntWalk.u32_in _ (by omega)]; omega
      obtain ⟨q1, hq1⟩ : ∃ q, q = p0 + p1 := ⟨_, rfl⟩
      obtain ⟨q2, hq2⟩ : ∃ q, q = q1 + p2 := ⟨_, rfl⟩
      obtain ⟨q3, hq3⟩ : ∃ q, q = q2 + v3 := ⟨_, rfl⟩
      have s1 : IntKind.u32.wrap ((p0 : Int) + (p1 : Int)) = (q1 : Int) := by rw [IntWalk.u32_in _ (by omega)]; omega
      have s2 : IntKind.u32.wrap ((q1 : Int) + (p2 : Int)) = (q2 : Int) := by rw [IntWalk.u32_in _ (by omega)]; omega
      have s3 : IntKind.u32.wrap ((q2 : Int) + (v3 : Int)) = (q3 : Int) := by rw [IntWalk.u32_in _ (by omega)]; omega
      have HBE := Lib.hid (show be32 l t = q3 from by omega)
      have HQ := Lib.hid (show (v0 : Int) * 16777216 + (v1 : Int) * 65536 + (v2 : Int) * 256 + (v3 : Int) = (q3 : Int) from by omega)
      have HM := Lib.hid hm
      clear hm hbe hp0 hp1 hp2 hq1 hq2 hq3 hv0 hv1 hv2 hv3 hn0 hn1 hn2 hn3
      go_wp2_with fail
      apply region_grew [Is _, Is _, Is _, Is _, Is _, Is _, Is _, Is _, Is _, Is _, Is _, Is _, Is _, Is _, Is _, Is _, Is _, Is _, Is _, Is _, Is _, Is _, Is _, Is _, Is _, Is _, Is _, Is _, Is _, Is _] [([(8, none)], none), ([(2, none)], none), ([(8, none)], none), ([(23, some 2)], none), ([(22, some 1), (24, some 3)], none), ([(25, some 4)], none), ([(26, some 5)], none), ([(2, none)], none), ([(8, none)], none), ([(29, some 8)], none), ([(30, some 9)], none), ([(28, some 7), (31, some 10)], none), ([(32, some 11)], none), ([(33, some 12)], none), ([(27, some 6), (34, some 13)], none), ([(2, none)], none), ([(8, none)], none), ([(37, some 16)], none), ([(38, some 17)], none), ([(36, some 15), (39, some 18)], none), ([(40, some 19)], none), ([(41, some 20)], none), ([(35, some 14), (42, some 21)], none), ([(2, none)], none), ([(8, none)], none), ([(45, some 24)], none), ([(46, some 25)], none), ([(44, some 23), (47, some 26)], none), ([(48, some 27)], none), ([(43, some 22), (49, some 28)], none)] [(21, 0), (22, 1), (23, 2), (24, 3), (25, 4), (26, 5), (27, 6), (28, 7), (29, 8), (30, 9), (31, 10), (32, 11), (33, 12), (34, 13), (35, 14), (36, 15), (37, 16), (38, 17), (39, 18), (40, 19), (41, 20), (42, 21), (43, 22), (44, 23), (45, 24), (46, 25), (47, 26), (48, 27), (49, 28), (50, 29)] rfl (by kernel_rfl) (by kernel_rfl) (show Stable Grew _ from ⟨Is.stable _, Is.stable _, Is.stable _, Is.stable _, Is.stable _, Is.stable _, Is.stable _, Is.stable _, Is.stable _, Is.stable _, Is.stable _, Is.stable _, Is.stable _, Is.stable _, Is.stable _, Is.stable _, Is.stable _, Is.stable _, Is.stable _, Is.stable _, Is.stable _, Is.stable _, Is.stable _, Is.stable _, Is.stable _, Is.stable _, Is.stable _, Is.stable _, Is.stable _, Is.stable _, trivial⟩)
      · show OpsHold _ _ _ _ _ _ _ _ _
        refine ⟨fun a_ wx hR hD K hK => ?_, ?_⟩
        · have hG : Grew wr wx := (Grew.drew _).trans hR
          simp [Deps, Dep, at_, Is] at hD
          go_simp
          exact hK _ _ (Grew.refl _) rfl
        refine ⟨fun a_ wx hR hD K hK => ?_, ?_⟩
        · have hG : Grew wr wx := (Grew.drew _).trans hR
          simp [Deps, Dep, at_, Is] at hD
          go_simp
          exact hK _ _ (Grew.refl _) rfl
        refine ⟨fun a_ wx hR hD K hK => ?_, ?_⟩
        · have hG : Grew wr wx := (Grew.drew _).trans hR
          simp [Deps, Dep, at_, Is] at hD
          go_simp
          exact hK _ _ (Grew.refl _) rfl
        refine ⟨fun a_ wx hR hD K hK => ?_, ?_⟩
        · have hG : Grew wr wx := (Grew.drew _).trans hR
          simp [Deps, Dep, at_, Is] at hD
          go_simp
          exact hK _ _ (Grew.refl _) rfl
        refine ⟨fun a_ wx hR hD K hK => ?_, ?_⟩
        · have hG : Grew wr wx := (Grew.drew _).trans hR
          simp [Deps, Dep, at_, Is] at hD
          obtain ⟨hd0, hd1⟩ := hD
          go_simp
          exact hK _ _ (Grew.refl _) rfl
        refine ⟨fun a_ wx hR hD K hK => ?_, ?_⟩
        · have hG : Grew wr wx := (Grew.drew _).trans hR
          simp [Deps, Dep, at_, Is] at hD
          go_simp
          exact hK _ _ (Grew.refl _) rfl
        refine ⟨fun a_ wx hR hD K hK => ?_, ?_⟩
        · have hG : Grew wr wx := (Grew.drew _).trans hR
          simp [Deps, Dep, at_, Is] at hD
          go_simp
          exact hK _ _ (Grew.refl _) rfl
        refine ⟨fun a_ wx hR hD K hK => ?_, ?_⟩
        · have hG : Grew wr wx := (Grew.drew _).trans hR
          simp [Deps, Dep, at_, Is] at hD
          go_simp
          exact hK _ _ (Grew.refl _) rfl
        refine ⟨fun a_ wx hR hD K hK => ?_, ?_⟩
        · have hG : Grew wr wx := (Grew.drew _).trans hR
          simp [Deps, Dep, at_, Is] at hD
          go_simp
          exact hK _ _ (Grew.refl _) rfl
        refine ⟨fun a_ wx hR hD K hK => ?_, ?_⟩
        · have hG : Grew wr wx := (Grew.drew _).trans hR
          simp [Deps, Dep, at_, Is] at hD
          go_simp
          exact hK _ _ (Grew.refl _) rfl
        refine ⟨fun a_ wx hR hD K hK => ?_, ?_⟩
        · have hG : Grew wr wx := (Grew.drew _).trans hR
          simp [Deps, Dep, at_, Is] at hD
          go_simp
          exact hK _ _ (Grew.refl _) rfl
        refine ⟨fun a_ wx hR hD K hK => ?_, ?_⟩
        · have hG : Grew wr wx := (Grew.drew _).trans hR
          simp [Deps, Dep, at_, Is] at hD
          obtain ⟨hd0, hd1⟩ := hD
          go_simp
          exact hK _ _ (Grew.refl _) rfl
        refine ⟨fun a_ wx hR hD K hK => ?_, ?_⟩
        · have hG : Grew wr wx := (Grew.drew _).trans hR
          simp [Deps, Dep, at_, Is] at hD
          go_simp
          exact hK _ _ (Grew.refl _) rfl
        refine ⟨fun a_ wx hR hD K hK => ?_, ?_⟩
        · have hG : Grew wr wx := (Grew.drew _).trans hR
          simp [Deps, Dep, at_, Is] at hD
          go_simp
          exact hK _ _ (Grew.refl _) rfl
        refine ⟨fun a_ wx hR hD K hK => ?_, ?_⟩
        · have hG : Grew wr wx := (Grew.drew _).trans hR
          simp [Deps, Dep, at_, Is] at hD
          obtain ⟨hd0, hd1⟩ := hD
          go_simp
          exact hK _ _ (Grew.refl _) rfl
        refine ⟨fun a_ wx hR hD K hK => ?_, ?_⟩
        · have hG : Grew wr wx := (Grew.drew _).trans hR
          simp [Deps, Dep, at_, Is] at hD
          go_simp
          exact hK _ _ (Grew.refl _) rfl
        refine ⟨fun a_ wx hR hD K hK => ?_, ?_⟩
        · have hG : Grew wr wx := (Grew.drew _).trans hR
          simp [Deps, Dep, at_, Is] at hD
          go_simp
          exact hK _ _ (Grew.refl _) rfl
        refine ⟨fun a_ wx hR hD K hK => ?_, ?_⟩
        · have hG : Grew wr wx := (Grew.drew _).trans hR
          simp [Deps, Dep, at_, Is] at hD
          go_simp
          exact hK _ _ (Grew.refl _) rfl
        refine ⟨fun a_ wx hR hD K hK => ?_, ?_⟩
        · have hG : Grew wr wx := (Grew.drew _).trans hR
          simp [Deps, Dep, at_, Is] at hD
          go_simp
          exact hK _ _ (Grew.refl _) rfl
        refine ⟨fun a_ wx hR hD K hK => ?_, ?_⟩
        · have hG : Grew wr wx := (Grew.drew _).trans hR
          simp [Deps, Dep, at_, Is] at hD
          obtain ⟨hd0, hd1⟩ := hD
          go_simp
          exact hK _ _ (Grew.refl _) rfl
        refine ⟨fun a_ wx hR hD K hK => ?_, ?_⟩
        · have hG : Grew wr wx := (Grew.drew _).trans hR
          simp [Deps, Dep, at_, Is] at hD
          go_simp
          exact hK _ _ (Grew.refl _) rfl
        refine ⟨fun a_ wx hR hD K hK => ?_, ?_⟩
        · have hG : Grew wr wx := (Grew.drew _).trans hR
          simp [Deps, Dep, at_, Is] at hD
          go_simp
          exact hK _ _ (Grew.refl _) rfl
        refine ⟨fun a_ wx hR hD K hK => ?_, ?_⟩
        · have hG : Grew wr wx := (Grew.drew _).trans hR
          simp [Deps, Dep, at_, Is] at hD
          obtain ⟨hd0, hd1⟩ := hD
          go_simp
          exact hK _ _ (Grew.refl _) rfl
        refine ⟨fun a_ wx hR hD K hK => ?_, ?_⟩
        · have hG : Grew wr wx := (Grew.drew _).trans hR
          simp [Deps, Dep, at_, Is] at hD
          go_simp
          exact hK _ _ (Grew.refl _) rfl
        refine ⟨fun a_ wx hR hD K hK => ?_, ?_⟩
        · have hG : Grew wr wx := (Grew.drew _).trans hR
          simp [Deps, Dep, at_, Is] at hD
          go_simp
          exact hK _ _ (Grew.refl _) rfl
        refine ⟨fun a_ wx hR hD K hK => ?_, ?_⟩
        · have hG : Grew wr wx := (Grew.drew _).trans hR
          simp [Deps, Dep, at_, Is] at hD
          go_simp
          exact hK _ _ (Grew.refl _) rfl
        refine ⟨fun a_ wx hR hD K hK => ?_, ?_⟩
        · have hG : Grew wr wx := (Grew.drew _).trans hR
          simp [Deps, Dep, at_, Is] at hD
          go_simp
          exact hK _ _ (Grew.refl _) rfl
        refine ⟨fun a_ wx hR hD K hK => ?_, ?_⟩
        · have hG : Grew wr wx := (Grew.drew _).trans hR
          simp [Deps, Dep, at_, Is] at hD
          obtain ⟨hd0, hd1⟩ := hD
          go_simp
          exact hK _ _ (Grew.refl _) rfl
        refine ⟨fun a_ wx hR hD K hK => ?_, ?_⟩
        · have hG : Grew wr wx := (Grew.drew _).trans hR
          simp [Deps, Dep, at_, Is] at hD
          go_simp
          exact hK _ _ (Grew.refl _) rfl
        refine ⟨fun a_ wx hR hD K hK => ?_, ?_⟩
        · have hG : Grew wr wx := (Grew.drew _).trans hR
          simp [Deps, Dep, at_, Is] at hD
          obtain ⟨hd0, hd1⟩ := hD
          go_simp
          exact hK _ _ (Grew.refl _) rfl
        trivial
      · show EndHold _ _ _ _ _ _ _
        refine end_all (xs := [_, _, _, _, _, _, _, _, _, _, _, _, _, _, _, _, _, _, _, _, _, _, _, _, _, _, _, _, _, _]) ⟨rfl, rfl, rfl, rfl, rfl, rfl, rfl, rfl, rfl, rfl, rfl, rfl, rfl, rfl, rfl, rfl, rfl, rfl, rfl, rfl, rfl, rfl, rfl, rfl, rfl, rfl, rfl, rfl, rfl, rfl, trivial⟩ ?_
        rintro w5 hR1 -
        refine ⟨?_⟩
        have hG_w5 : Grew wr w5 := (Grew.drew _).trans hR1
        clear hR1
        simp only [Act.put, List.setIfInBounds_toArray, List.set_cons_succ, List.set_cons_zero, dropN, putEach]
        have HM5 := Lib.hid (HM.out.grew hG_w5)
        have c1 := HM5.out.b2.at_ t
        rw [cells_get _ _ (by rw [arr_len _ (by rw [ws_len]; omega)]; omega)] at c1
        have c2 := HM5.out.b2.fz t
        have i1 : (t : Int) < 64 := by omega
        go_wp2_with fail
        go_roundw
        case rel =>
          refine ⟨t + 1, by go_num, by omega, ?_⟩
          have h := HM5.out.set2 t (be32 l t)
          have hx4 : (arr64 (ws l t)).set t (be32 l t) = arr64 (ws l (t + 1)) := by
            have := arr_setN (ws l t) (by rw [ws_len]; omega) (be32 l t)
            rw [ws_len] at this
            rw [this]; simp only [ws]; rw [if_pos hlt]
          rw [hx4, HBE.out] at h
          rw [HQ.out]
          exact h
        case measure => simp [intOf]; omega
    · have d1 : decide ((t : Int) < 16) = false := decide_eq_false (by omega)
      obtain rfl : t = 16 := by omega
      go_wp2_with fail
      try rw [show ((16 : Nat) : Int) = 16 from rfl]
      go_loopw [9] (fun iv wr => ∃ t : Nat, iv = .int .i64 (t : Int) ∧ 16 ≤ t ∧ t ≤ 64 ∧ MixR w ks s (arr64 (ws l t)) wr) (fun iv _ => 64 - (intOf iv).toNat)
      case atStart => exact ⟨16, rfl, by omega, by omega, hm⟩
      case round =>
        obtain ⟨t, rfl, h16, ht, hm2⟩ := hrel
        clear hm
        have hm := hm2
        clear hm2
        replace h16 : ¬ t < 16 := by omega
        by_cases hlt : t < 64
        · have d1 : decide ((t : Int) < 64) = true := decide_eq_true (by omega)
          have i64 : (t : Int) < 64 := by omega
          have hl64 : (arr64 (ws l t)).length = 64 := arr_len _ (by rw [ws_len]; omega)
          obtain ⟨n15, hn15⟩ : ∃ n, n = t - 15 := ⟨_, rfl⟩
          obtain ⟨n16, hn16⟩ : ∃ n, n = t - 16 := ⟨_, rfl⟩
          obtain ⟨n7, hn7⟩ : ∃ n, n = t - 7 := ⟨_, rfl⟩
          obtain ⟨n2, hn2⟩ : ∃ n, n = t - 2 := ⟨_, rfl⟩
          have e15 : IntKind.i64.wrap ((t : Int) - 15) = (n15 : Int) := by rw [IntWalk.i64_in _ (by omega)]; omega
          have e16 : IntKind.i64.wrap ((t : Int) - 16) = (n16 : Int) := by rw [IntWalk.i64_in _ (by omega)]; omega
          have e7 : IntKind.i64.wrap ((t : Int) - 7) = (n7 : Int) := by rw [IntWalk.i64_in _ (by omega)]; omega
          have e2 : IntKind.i64.wrap ((t : Int) - 2) = (n2 : Int) := by rw [IntWalk.i64_in _ (by omega)]; omega
          have l15 : n15 < 64 := by omega
          have i15 : (n15 : Int) < 64 := by omega
          have l16 : n16 < 64 := by omega
          have i16 : (n16 : Int) < 64 := by omega
          have l7 : n7 < 64 := by omega
          have i7 : (n7 : Int) < 64 := by omega
          have l2 : n2 < 64 := by omega
          have i2 : (n2 : Int) < 64 := by omega
          have c15 := hm.b2.at_ n15
          have c16 := hm.b2.at_ n16
          have c7 := hm.b2.at_ n7
          have c2 := hm.b2.at_ n2
          rw [cells_get _ _ (by omega), arr_get] at c15 c16 c7 c2
          obtain ⟨x15, hx15⟩ : ∃ x, x = (ws l t).getD n15 0 := ⟨_, rfl⟩
          obtain ⟨x16, hx16⟩ : ∃ x, x = (ws l t).getD n16 0 := ⟨_, rfl⟩
          obtain ⟨x7, hx7⟩ : ∃ x, x = (ws l t).getD n7 0 := ⟨_, rfl⟩
          obtain ⟨x2, hx2⟩ : ∃ x, x = (ws l t).getD n2 0 := ⟨_, rfl⟩
          rw [← hx15] at c15
          rw [← hx16] at c16
          rw [← hx7] at c7
          rw [← hx2] at c2
          have b15 : x15 < 4294967296 := by rw [hx15]; exact words_get (ws_words hlb t) _
          have b2 : x2 < 4294967296 := by rw [hx2]; exact words_get (ws_words hlb t) _
          have HN := Lib.hid (show wnext (ws l t) t = addW (addW (addW x16 x7) (sg0 x15)) (sg1 x2) from by rw [hx15, hx16, hx7, hx2, hn15, hn16, hn7, hn2]; rfl)
          have HM := Lib.hid hm
          have C15 := Lib.hid c15
          have C16 := Lib.hid c16
          have C7 := Lib.hid c7
          have C2 := Lib.hid c2
          have f1 := shr_3 x15
          have f2 := xor_w (rotW_lt 7 b15) (rotW_lt 18 b15)
          have f3 := xor_w (xorW_lt (rotW_lt 7 b15) (rotW_lt 18 b15)) (shrW_lt 3 b15)
          clear hm c15 c16 c7 c2 hx15 hx16 hx7 hx2 hn15 hn16 hn7 hn2 hl64
          go_wp2_with fail
          apply region_grew [Is _, Is _, Is _, Is _, Is _, Is _, Is _, Is _, Is _, Is _, Is _, Is _, Is _, Is _, Is _, Is _] [([(9, none)], none), ([(56, some 0)], none), ([(7, none), (57, some 1)], none), ([(58, some 2)], none), ([(59, some 3)], none), ([(9, none)], none), ([(61, some 5)], none), ([(7, none), (62, some 6)], none), ([(63, some 7)], none), ([(64, some 8)], none), ([(60, some 4), (65, some 9)], none), ([(9, none)], none), ([(67, some 11)], none), ([(7, none), (68, some 12)], none), ([(69, some 13)], none), ([(70, some 14)], none)] [(56, 0), (57, 1), (58, 2), (59, 3), (60, 4), (61, 5), (62, 6), (63, 7), (64, 8), (65, 9), (66, 10), (67, 11), (68, 12), (69, 13), (70, 14), (71, 15)] rfl (by kernel_rfl) (by kernel_rfl) (show Stable Grew _ from ⟨Is.stable _, Is.stable _, Is.stable _, Is.stable _, Is.stable _, Is.stable _, Is.stable _, Is.stable _, Is.stable _, Is.stable _, Is.stable _, Is.stable _, Is.stable _, Is.stable _, Is.stable _, Is.stable _, trivial⟩)
          · show OpsHold _ _ _ _ _ _ _ _ _
            refine ⟨fun a_ wx hR hD K hK => ?_, ?_⟩
            · have hG : Grew wr wx := (Grew.drew _).trans hR
              simp [Deps, Dep, at_, Is] at hD
              go_simp
              exact hK _ _ (Grew.refl _) rfl
            refine ⟨fun a_ wx hR hD K hK => ?_, ?_⟩
            · have hG : Grew wr wx := (Grew.drew _).trans hR
              simp [Deps, Dep, at_, Is] at hD
              go_simp
              exact hK _ _ (Grew.refl _) rfl
            refine ⟨fun a_ wx hR hD K hK => ?_, ?_⟩
            · have hG : Grew wr wx := (Grew.drew _).trans hR
              simp [Deps, Dep, at_, Is] at hD
              obtain ⟨hd0, hd1⟩ := hD
              go_simp
              exact hK _ _ (Grew.refl _) rfl
            refine ⟨fun a_ wx hR hD K hK => ?_, ?_⟩
            · have hG : Grew wr wx := (Grew.drew _).trans hR
              simp [Deps, Dep, at_, Is] at hD
              have e_ := pw_cell_below hG C15.out
              go_simp
              exact hK _ _ (Grew.refl _) rfl
            refine ⟨fun a_ wx hR hD K hK => ?_, ?_⟩
            · have hG : Grew wr wx := (Grew.drew _).trans hR
              simp [Deps, Dep, at_, Is] at hD
              go_simp
              have hcn := rturn_n x15 7 7 rfl b15 (by omega) (by omega) wx
              with_reducible refine hcn.mono ?_
              clear hcn
              rintro e wy ⟨v, rfl, hv, hg⟩
              exact hK _ _ hg hv
            refine ⟨fun a_ wx hR hD K hK => ?_, ?_⟩
            · have hG : Grew wr wx := (Grew.drew _).trans hR
              simp [Deps, Dep, at_, Is] at hD
              go_simp
              exact hK _ _ (Grew.refl _) rfl
            refine ⟨fun a_ wx hR hD K hK => ?_, ?_⟩
            · have hG : Grew wr wx := (Grew.drew _).trans hR
              simp [Deps, Dep, at_, Is] at hD
              go_simp
              exact hK _ _ (Grew.refl _) rfl
            refine ⟨fun a_ wx hR hD K hK => ?_, ?_⟩
            · have hG : Grew wr wx := (Grew.drew _).trans hR
              simp [Deps, Dep, at_, Is] at hD
              obtain ⟨hd0, hd1⟩ := hD
              go_simp
              exact hK _ _ (Grew.refl _) rfl
            refine ⟨fun a_ wx hR hD K hK => ?_, ?_⟩
            · have hG : Grew wr wx := (Grew.drew _).trans hR
              simp [Deps, Dep, at_, Is] at hD
              have e_ := pw_cell_below hG C15.out
              go_simp
              exact hK _ _ (Grew.refl _) rfl
            refine ⟨fun a_ wx hR hD K hK => ?_, ?_⟩
            · have hG : Grew wr wx := (Grew.drew _).trans hR
              simp [Deps, Dep, at_, Is] at hD
              go_simp
              have hcn := rturn_n x15 18 18 rfl b15 (by omega) (by omega) wx
              with_reducible refine hcn.mono ?_
              clear hcn
              rintro e wy ⟨v, rfl, hv, hg⟩
              exact hK _ _ hg hv
            refine ⟨fun a_ wx hR hD K hK => ?_, ?_⟩
            · have hG : Grew wr wx := (Grew.drew _).trans hR
              simp [Deps, Dep, at_, Is] at hD
              obtain ⟨hd0, hd1⟩ := hD
              go_simp
              exact hK _ _ (Grew.refl _) rfl
            refine ⟨fun a_ wx hR hD K hK => ?_, ?_⟩
            · have hG : Grew wr wx := (Grew.drew _).trans hR
              simp [Deps, Dep, at_, Is] at hD
              go_simp
              exact hK _ _ (Grew.refl _) rfl
            refine ⟨fun a_ wx hR hD K hK => ?_, ?_⟩
            · have hG : Grew wr wx := (Grew.drew _).trans hR
              simp [Deps, Dep, at_, Is] at hD
              go_simp
              exact hK _ _ (Grew.refl _) rfl
            refine ⟨fun a_ wx hR hD K hK => ?_, ?_⟩
            · have hG : Grew wr wx := (Grew.drew _).trans hR
              simp [Deps, Dep, at_, Is] at hD
              obtain ⟨hd0, hd1⟩ := hD
              go_simp
              exact hK _ _ (Grew.refl _) rfl
            refine ⟨fun a_ wx hR hD K hK => ?_, ?_⟩
            · have hG : Grew wr wx := (Grew.drew _).trans hR
              simp [Deps, Dep, at_, Is] at hD
              have e_ := pw_cell_below hG C15.out
              go_simp
              exact hK _ _ (Grew.refl _) rfl
            refine ⟨fun a_ wx hR hD K hK => ?_, ?_⟩
            · have hG : Grew wr wx := (Grew.drew _).trans hR
              simp [Deps, Dep, at_, Is] at hD
              go_simp
              exact hK _ _ (Grew.refl _) rfl
            trivial
          · show EndHold _ _ _ _ _ _ _
            refine end_all (xs := [_, _, _, _, _, _, _, _, _, _, _, _, _, _, _, _]) ⟨rfl, rfl, rfl, rfl, rfl, rfl, rfl, rfl, rfl, rfl, rfl, rfl, rfl, rfl, rfl, rfl, trivial⟩ ?_
            rintro w5 hR1 -
            refine ⟨?_⟩
            have hG_w5 : Grew wr w5 := (Grew.drew _).trans hR1
            clear hR1
            simp only [Act.put, List.setIfInBounds_toArray, List.set_cons_succ, List.set_cons_zero, dropN, putEach]
            go_wp2_with fail
            have C2' := Lib.hid (pw_cell_below hG_w5 C2.out)
            have g1 := shr_10 x2
            have g2 := xor_w (rotW_lt 17 b2) (rotW_lt 19 b2)
            have g3 := xor_w (xorW_lt (rotW_lt 17 b2) (rotW_lt 19 b2)) (shrW_lt 10 b2)
            apply region_grew [Is _, Is _, Is _, Is _, Is _, Is _, Is _, Is _, Is _, Is _, Is _, Is _, Is _, Is _, Is _, Is _] [([(9, none)], none), ([(73, some 0)], none), ([(7, none), (74, some 1)], none), ([(75, some 2)], none), ([(76, some 3)], none), ([(9, none)], none), ([(78, some 5)], none), ([(7, none), (79, some 6)], none), ([(80, some 7)], none), ([(81, some 8)], none), ([(77, some 4), (82, some 9)], none), ([(9, none)], none), ([(84, some 11)], none), ([(7, none), (85, some 12)], none), ([(86, some 13)], none), ([(87, some 14)], none)] [(73, 0), (74, 1), (75, 2), (76, 3), (77, 4), (78, 5), (79, 6), (80, 7), (81, 8), (82, 9), (83, 10), (84, 11), (85, 12), (86, 13), (87, 14), (88, 15)] rfl (by kernel_rfl) (by kernel_rfl) (show Stable Grew _ from ⟨Is.stable _, Is.stable _, Is.stable _, Is.stable _, Is.stable _, Is.stable _, Is.stable _, Is.stable _, Is.stable _, Is.stable _, Is.stable _, Is.stable _, Is.stable _, Is.stable _, Is.stable _, Is.stable _, trivial⟩)
            · show OpsHold _ _ _ _ _ _ _ _ _
              refine ⟨fun a_ wx hR hD K hK => ?_, ?_⟩
              · have hG : Grew w5 wx := (Grew.drew _).trans hR
                simp [Deps, Dep, at_, Is] at hD
                go_simp
                exact hK _ _ (Grew.refl _) rfl
              refine ⟨fun a_ wx hR hD K hK => ?_, ?_⟩
              · have hG : Grew w5 wx := (Grew.drew _).trans hR
                simp [Deps, Dep, at_, Is] at hD
                go_simp
                exact hK _ _ (Grew.refl _) rfl
              refine ⟨fun a_ wx hR hD K hK => ?_, ?_⟩
              · have hG : Grew w5 wx := (Grew.drew _).trans hR
                simp [Deps, Dep, at_, Is] at hD
                obtain ⟨hd0, hd1⟩ := hD
                go_simp
                exact hK _ _ (Grew.refl _) rfl
              refine ⟨fun a_ wx hR hD K hK => ?_, ?_⟩
              · have hG : Grew w5 wx := (Grew.drew _).trans hR
                simp [Deps, Dep, at_, Is] at hD
                have e_ := pw_cell_below hG C2'.out
                go_simp
                exact hK _ _ (Grew.refl _) rfl
              refine ⟨fun a_ wx hR hD K hK => ?_, ?_⟩
              · have hG : Grew w5 wx := (Grew.drew _).trans hR
                simp [Deps, Dep, at_, Is] at hD
                go_simp
                have hcn := rturn_n x2 17 17 rfl b2 (by omega) (by omega) wx
                with_reducible refine hcn.mono ?_
                clear hcn
                rintro e wy ⟨v, rfl, hv, hg⟩
                exact hK _ _ hg hv
              refine ⟨fun a_ wx hR hD K hK => ?_, ?_⟩
              · have hG : Grew w5 wx := (Grew.drew _).trans hR
                simp [Deps, Dep, at_, Is] at hD
                go_simp
                exact hK _ _ (Grew.refl _) rfl
              refine ⟨fun a_ wx hR hD K hK => ?_, ?_⟩
              · have hG : Grew w5 wx := (Grew.drew _).trans hR
                simp [Deps, Dep, at_, Is] at hD
                go_simp
                exact hK _ _ (Grew.refl _) rfl
              refine ⟨fun a_ wx hR hD K hK => ?_, ?_⟩
              · have hG : Grew w5 wx := (Grew.drew _).trans hR
                simp [Deps, Dep, at_, Is] at hD
                obtain ⟨hd0, hd1⟩ := hD
                go_simp
                exact hK _ _ (Grew.refl _) rfl
              refine ⟨fun a_ wx hR hD K hK => ?_, ?_⟩
              · have hG : Grew w5 wx := (Grew.drew _).trans hR
                simp [Deps, Dep, at_, Is] at hD
                have e_ := pw_cell_below hG C2'.out
                go_simp
                exact hK _ _ (Grew.refl _) rfl
              refine ⟨fun a_ wx hR hD K hK => ?_, ?_⟩
              · have hG : Grew w5 wx := (Grew.drew _).trans hR
                simp [Deps, Dep, at_, Is] at hD
                go_simp
                have hcn := rturn_n x2 19 19 rfl b2 (by omega) (by omega) wx
                with_reducible refine hcn.mono ?_
                clear hcn
                rintro e wy ⟨v, rfl, hv, hg⟩
                exact hK _ _ hg hv
              refine ⟨fun a_ wx hR hD K hK => ?_, ?_⟩
              · have hG : Grew w5 wx := (Grew.drew _).trans hR
                simp [Deps, Dep, at_, Is] at hD
                obtain ⟨hd0, hd1⟩ := hD
                go_simp
                exact hK _ _ (Grew.refl _) rfl
              refine ⟨fun a_ wx hR hD K hK => ?_, ?_⟩
              · have hG : Grew w5 wx := (Grew.drew _).trans hR
                simp [Deps, Dep, at_, Is] at hD
                go_simp
                exact hK _ _ (Grew.refl _) rfl
              refine ⟨fun a_ wx hR hD K hK => ?_, ?_⟩
              · have hG : Grew w5 wx := (Grew.drew _).trans hR
                simp [Deps, Dep, at_, Is] at hD
                go_simp
                exact hK _ _ (Grew.refl _) rfl
              refine ⟨fun a_ wx hR hD K hK => ?_, ?_⟩
              · have hG : Grew w5 wx := (Grew.drew _).trans hR
                simp [Deps, Dep, at_, Is] at hD
                obtain ⟨hd0, hd1⟩ := hD
                go_simp
                exact hK _ _ (Grew.refl _) rfl
              refine ⟨fun a_ wx hR hD K hK => ?_, ?_⟩
              · have hG : Grew w5 wx := (Grew.drew _).trans hR
                simp [Deps, Dep, at_, Is] at hD
                have e_ := pw_cell_below hG C2'.out
                go_simp
                exact hK _ _ (Grew.refl _) rfl
              refine ⟨fun a_ wx hR hD K hK => ?_, ?_⟩
              · have hG : Grew w5 wx := (Grew.drew _).trans hR
                simp [Deps, Dep, at_, Is] at hD
                go_simp
                exact hK _ _ (Grew.refl _) rfl
              trivial
            · show EndHold _ _ _ _ _ _ _
              refine end_all (xs := [_, _, _, _, _, _, _, _, _, _, _, _, _, _, _, _]) ⟨rfl, rfl, rfl, rfl, rfl, rfl, rfl, rfl, rfl, rfl, rfl, rfl, rfl, rfl, rfl, rfl, trivial⟩ ?_
              rintro w6 hR1 -
              refine ⟨?_⟩
              have hG_w6 : Grew w5 w6 := (Grew.drew _).trans hR1
              clear hR1
              simp only [Act.put, List.setIfInBounds_toArray, List.set_cons_succ, List.set_cons_zero, dropN, putEach]
              go_wp2_with fail
              have C16' := Lib.hid (pw_cell_below (hG_w5.trans hG_w6) C16.out)
              have C7' := Lib.hid (pw_cell_below (hG_w5.trans hG_w6) C7.out)
              have a1 := add_w x16 x7
              have a2 := add_w (addW x16 x7) (xorW (xorW (rotW x15 7) (rotW x15 18)) (shrW x15 3))
              have a3 := add_w (addW (addW x16 x7) (xorW (xorW (rotW x15 7) (rotW x15 18)) (shrW x15 3))) (xorW (xorW (rotW x2 17) (rotW x2 19)) (shrW x2 10))
              apply region_grew [Is _, Is _, Is _, Is _, Is _, Is _, Is _, Is _, Is _, Is _, Is _, Is _, Is _, Is _] [([(9, none)], none), ([(9, none)], none), ([(91, some 1)], none), ([(7, none), (92, some 2)], none), ([(93, some 3)], none), ([(9, none)], none), ([(95, some 5)], none), ([(7, none), (96, some 6)], none), ([(97, some 7)], none), ([(94, some 4), (98, some 8)], none), ([(10, none)], none), ([(99, some 9), (100, some 10)], none), ([(11, none)], none), ([(101, some 11), (102, some 12)], none)] [(90, 0), (91, 1), (92, 2), (93, 3), (94, 4), (95, 5), (96, 6), (97, 7), (98, 8), (99, 9), (100, 10), (101, 11), (102, 12), (103, 13)] rfl (by kernel_rfl) (by kernel_rfl) (show Stable Grew _ from ⟨Is.stable _, Is.stable _, Is.stable _, Is.stable _, Is.stable _, Is.stable _, Is.stable _, Is.stable _, Is.stable _, Is.stable _, Is.stable _, Is.stable _, Is.stable _, Is.stable _, trivial⟩)
              · show OpsHold _ _ _ _ _ _ _ _ _
                refine ⟨fun a_ wx hR hD K hK => ?_, ?_⟩
                · have hG : Grew w6 wx := (Grew.drew _).trans hR
                  simp [Deps, Dep, at_, Is] at hD
                  go_simp
                  exact hK _ _ (Grew.refl _) rfl
                refine ⟨fun a_ wx hR hD K hK => ?_, ?_⟩
                · have hG : Grew w6 wx := (Grew.drew _).trans hR
                  simp [Deps, Dep, at_, Is] at hD
                  go_simp
                  exact hK _ _ (Grew.refl _) rfl
                refine ⟨fun a_ wx hR hD K hK => ?_, ?_⟩
                · have hG : Grew w6 wx := (Grew.drew _).trans hR
                  simp [Deps, Dep, at_, Is] at hD
                  go_simp
                  exact hK _ _ (Grew.refl _) rfl
                refine ⟨fun a_ wx hR hD K hK => ?_, ?_⟩
                · have hG : Grew w6 wx := (Grew.drew _).trans hR
                  simp [Deps, Dep, at_, Is] at hD
                  obtain ⟨hd0, hd1⟩ := hD
                  go_simp
                  exact hK _ _ (Grew.refl _) rfl
                refine ⟨fun a_ wx hR hD K hK => ?_, ?_⟩
                · have hG : Grew w6 wx := (Grew.drew _).trans hR
                  simp [Deps, Dep, at_, Is] at hD
                  have e_ := pw_cell_below hG C16'.out
                  go_simp
                  exact hK _ _ (Grew.refl _) rfl
                refine ⟨fun a_ wx hR hD K hK => ?_, ?_⟩
                · have hG : Grew w6 wx := (Grew.drew _).trans hR
                  simp [Deps, Dep, at_, Is] at hD
                  go_simp
                  exact hK _ _ (Grew.refl _) rfl
                refine ⟨fun a_ wx hR hD K hK => ?_, ?_⟩
                · have hG : Grew w6 wx := (Grew.drew _).trans hR
                  simp [Deps, Dep, at_, Is] at hD
                  go_simp
                  exact hK _ _ (Grew.refl _) rfl
                refine ⟨fun a_ wx hR hD K hK => ?_, ?_⟩
                · have hG : Grew w6 wx := (Grew.drew _).trans hR
                  simp [Deps, Dep, at_, Is] at hD
                  obtain ⟨hd0, hd1⟩ := hD
                  go_simp
                  exact hK _ _ (Grew.refl _) rfl
                refine ⟨fun a_ wx hR hD K hK => ?_, ?_⟩
                · have hG : Grew w6 wx := (Grew.drew _).trans hR
                  simp [Deps, Dep, at_, Is] at hD
                  have e_ := pw_cell_below hG C7'.out
                  go_simp
                  exact hK _ _ (Grew.refl _) rfl
                refine ⟨fun a_ wx hR hD K hK => ?_, ?_⟩
                · have hG : Grew w6 wx := (Grew.drew _).trans hR
                  simp [Deps, Dep, at_, Is] at hD
                  obtain ⟨hd0, hd1⟩ := hD
                  go_simp
                  exact hK _ _ (Grew.refl _) rfl
                refine ⟨fun a_ wx hR hD K hK => ?_, ?_⟩
                · have hG : Grew w6 wx := (Grew.drew _).trans hR
                  simp [Deps, Dep, at_, Is] at hD
                  go_simp
                  exact hK _ _ (Grew.refl _) rfl
                refine ⟨fun a_ wx hR hD K hK => ?_, ?_⟩
                · have hG : Grew w6 wx := (Grew.drew _).trans hR
                  simp [Deps, Dep, at_, Is] at hD
                  obtain ⟨hd0, hd1⟩ := hD
                  go_simp
                  exact hK _ _ (Grew.refl _) rfl
                refine ⟨fun a_ wx hR hD K hK => ?_, ?_⟩
                · have hG : Grew w6 wx := (Grew.drew _).trans hR
                  simp [Deps, Dep, at_, Is] at hD
                  go_simp
                  exact hK _ _ (Grew.refl _) rfl
                refine ⟨fun a_ wx hR hD K hK => ?_, ?_⟩
                · have hG : Grew w6 wx := (Grew.drew _).trans hR
                  simp [Deps, Dep, at_, Is] at hD
                  obtain ⟨hd0, hd1⟩ := hD
                  go_simp
                  exact hK _ _ (Grew.refl _) rfl
                trivial
              · show EndHold _ _ _ _ _ _ _
                refine end_all (xs := [_, _, _, _, _, _, _, _, _, _, _, _, _, _]) ⟨rfl, rfl, rfl, rfl, rfl, rfl, rfl, rfl, rfl, rfl, rfl, rfl, rfl, rfl, trivial⟩ ?_
                rintro w7 hR1 -
                refine ⟨?_⟩
                have hG_w7 : Grew w6 w7 := (Grew.drew _).trans hR1
                clear hR1
                simp only [Act.put, List.setIfInBounds_toArray, List.set_cons_succ, List.set_cons_zero, dropN, putEach]
                have HM7 := Lib.hid (HM.out.grew ((hG_w5.trans hG_w6).trans hG_w7))
                have c1 := HM7.out.b2.at_ t
                rw [cells_get _ _ (by rw [arr_len _ (by rw [ws_len]; omega)]; omega)] at c1
                have c2 := HM7.out.b2.fz t
                go_wp2_with fail
                go_roundw
                case rel =>
                  refine ⟨t + 1, by go_num, by omega, by omega, ?_⟩
                  have h := HM7.out.set2 t (addW (addW (addW x16 x7) (sg0 x15)) (sg1 x2))
                  rw [← HN.out] at h
                  have hx4 : (arr64 (ws l t)).set t (wnext (ws l t) t) = arr64 (ws l (t + 1)) := by
                    have := arr_setN (ws l t) (by rw [ws_len]; omega) (wnext (ws l t) t)
                    rw [ws_len] at this
                    rw [this]; simp only [ws]; rw [if_neg h16]
                  rw [hx4, HN.out] at h
                  exact h
                case measure => simp [intOf]; omega
        · have d1 : decide ((t : Int) < 64) = false := decide_eq_false (by omega)
          obtain rfl : t = 64 := by omega
          have hx64 : (arr64 (ws l 64)) = ws l 64 := by unfold arr64; rw [ws_len]; simp
          rw [hx64] at hm
          have hxl := ws_len l 64
          obtain ⟨x, hx⟩ : ∃ x, x = ws l 64 := ⟨_, rfl⟩
          rw [← hx] at hm hxl
          have hok := St.of_ok hsw
          obtain ⟨S0, hS0⟩ : ∃ S0, S0 = St.of s := ⟨_, rfl⟩
          have hsS : s = S0.list := by rw [hS0]; exact (St.of_list s hsl).symm
          rw [← hS0] at hok
          have HM := Lib.hid hm
          have H0 := Lib.hid hm.b0
          have HX := Lib.hid hx
          have HS := Lib.hid hS0
          have HSS := Lib.hid hsS
          have HXL := Lib.hid hxl
          have HKL := Lib.hid hkl
          have HSL := Lib.hid hsl
          clear hm hx hS0 hxl hkl hx64 hsl hl hsS
          go_wp2_with (first
            | refine wpList_load_blk H0.out (by rfl) 40 (.tmp 4) (by rfl) (by rfl) _ Try.underlying40 (by rfl) (by rw [wcells_len, HSL.out]; kernel_rfl) ?_
            | refine wpList_store_blk (c := wcells s) (Blk.new _ 40 (wcells (List.replicate 8 0))) (by rfl) 40 (.tmp 12) (.tmp 105) (by rfl) (by rfl) (by rfl) (by rw [wcells_len, HSL.out]; kernel_rfl) (by rw [wcells_len, wcells_len, HSL.out]; rfl) (wcells_one _) ?_)
          obtain ⟨gz, hgz⟩ : ∃ gz, gz = wr.heap.size := ⟨_, rfl⟩
          have hz0 : MixZ w ks s x S0.list gz ((wr.alloc (.cells (wcells (List.replicate 8 0)).toArray 40)).setRow gz (wcells s).toArray) := by
            have h1 : MixZ w ks s x (List.replicate 8 0) gz (wr.alloc (.cells (wcells (List.replicate 8 0)).toArray 40)) := ⟨HM.out.grew (Grew.alloc _ _), by rw [hgz]; exact Blk.new _ _ _, by rw [hgz]; exact HM.out.b2.lt⟩
            have h2 := h1.setz s
            rw [← HSS.out]
            exact h2
          rw [← hgz]
          try rw [show ((64 : Nat) : Int) = 64 from rfl]
          obtain ⟨W2, hW2⟩ : ∃ W2, W2 = ((wr.alloc (.cells (wcells (List.replicate 8 0)).toArray 40)).setRow gz (wcells s).toArray) := ⟨_, rfl⟩
          rw [← hW2] at hz0
          simp only [zeros8]
          rw [← hW2]
          clear hW2 H0 hgz
          go_loopw [13] (fun iv wq => ∃ t : Nat, iv = .int .i64 (t : Int) ∧ t ≤ 64 ∧ MixZ w ks s x (rn ks x t S0).list gz wq) (fun iv _ => 64 - (intOf iv).toNat)
          case atStart => exact ⟨0, rfl, by omega, hz0⟩
          case round =>
            obtain ⟨t, rfl, ht, hmq⟩ := hrel
            clear hz0
            by_cases hlt : t < 64
            · have d1 : decide ((t : Int) < 64) = true := decide_eq_true (by omega)
              have i1 : (t : Int) < 64 := by omega
              have hokt := rn_ok hok (ks := ks) (ws := x) t
              have hst : rn ks x (t + 1) S0 = rstep (ks.getD t 0) (x.getD t 0) (rn ks x t S0) := rfl
              have ck := hmq.m.bk.at_ t
              rw [cells_get _ _ (by rw [HKL.out]; omega)] at ck
              have cx := hmq.m.b2.at_ t
              rw [cells_get _ _ (by rw [HXL.out]; omega)] at cx
              obtain ⟨k, hk⟩ : ∃ k, k = ks.getD t 0 := ⟨_, rfl⟩
              obtain ⟨y, hy⟩ : ∃ y, y = x.getD t 0 := ⟨_, rfl⟩
              rw [← hk] at ck hst
              rw [← hy] at cx hst
              obtain ⟨S, hS⟩ : ∃ S, S = rn ks x t S0 := ⟨_, rfl⟩
              rw [← hS] at hokt hst hmq
              obtain ⟨a, b, c', d, e, f, g, hh⟩ := S
              obtain ⟨ba, bb, bc, bd, be, bf, bg, bh⟩ := hokt
              simp only [] at ba bb bc bd be bf bg bh ⊢
              have D0 := Lib.hid (show wr.cell? ⟨gz, 0, none⟩ = some (.int .u32 (a : Int)) from by rw [hmq.bz.at_]; rfl)
              have D1 := Lib.hid (show wr.cell? ⟨gz, 1, none⟩ = some (.int .u32 (b : Int)) from by rw [hmq.bz.at_]; rfl)
              have D2 := Lib.hid (show wr.cell? ⟨gz, 2, none⟩ = some (.int .u32 (c' : Int)) from by rw [hmq.bz.at_]; rfl)
              have D3 := Lib.hid (show wr.cell? ⟨gz, 3, none⟩ = some (.int .u32 (d : Int)) from by rw [hmq.bz.at_]; rfl)
              have D4 := Lib.hid (show wr.cell? ⟨gz, 4, none⟩ = some (.int .u32 (e : Int)) from by rw [hmq.bz.at_]; rfl)
              have D5 := Lib.hid (show wr.cell? ⟨gz, 5, none⟩ = some (.int .u32 (f : Int)) from by rw [hmq.bz.at_]; rfl)
              have D6 := Lib.hid (show wr.cell? ⟨gz, 6, none⟩ = some (.int .u32 (g : Int)) from by rw [hmq.bz.at_]; rfl)
              have D7 := Lib.hid (show wr.cell? ⟨gz, 7, none⟩ = some (.int .u32 (hh : Int)) from by rw [hmq.bz.at_]; rfl)
              have HST := Lib.hid hst
              have CK := Lib.hid ck
              have CX := Lib.hid cx
              have HM := Lib.hid hmq
              clear hst ck cx hmq hk hy hS
              have q0 := notr be
              have q1 := xor_w (rotW_lt 6 be) (rotW_lt 11 be)
              have q2 := xor_w (xorW_lt (rotW_lt 6 be) (rotW_lt 11 be)) (rotW_lt 25 be)
              have q3 := add_w hh (xorW (xorW (rotW e 6) (rotW e 11)) (rotW e 25))
              have q4 := and_w be bf
              have q5 := and_w (notW_lt e) bg
              have q6 := xor_w (andW_lt f be) (andW_lt g (notW_lt e))
              obtain ⟨z1, hz1⟩ : ∃ z, z = addW hh (xorW (xorW (rotW e 6) (rotW e 11)) (rotW e 25)) := ⟨_, rfl⟩
              rw [← hz1] at q3
              obtain ⟨z2, hz2⟩ : ∃ z, z = xorW (andW e f) (andW (notW e) g) := ⟨_, rfl⟩
              rw [← hz2] at q6
              have q7 := add_w z1 z2
              have q8 := add_w (addW z1 z2) k
              have q9 := add_w (addW (addW z1 z2) k) y
              have HZ1 := Lib.hid hz1
              have HZ2 := Lib.hid hz2
              clear hz1 hz2
              go_wp2_with fail
              apply region_grew [Is _, Is _, Is _, Is _, Is _, Is _, Is _, Is _, Is _, Is _, Is _, Is _, Is _, Is _, Is _, Is _, Is _, Is _, Is _, Is _, Is _, Is _, Is _, Is _, Is _, Is _, Is _, Is _, Is _, Is _, Is _, Is _, Is _, Is _] [([(12, none)], none), ([(110, some 0)], none), ([(12, none)], none), ([(112, some 2)], none), ([(113, some 3)], none), ([(12, none)], none), ([(115, some 5)], none), ([(116, some 6)], none), ([(114, some 4), (117, some 7)], none), ([(12, none)], none), ([(119, some 9)], none), ([(120, some 10)], none), ([(118, some 8), (121, some 11)], none), ([(111, some 1), (122, some 12)], none), ([(12, none)], none), ([(124, some 14)], none), ([(12, none)], none), ([(126, some 16)], none), ([(125, some 15), (127, some 17)], none), ([(12, none)], none), ([(129, some 19)], none), ([(130, some 20)], none), ([(12, none)], none), ([(132, some 22)], none), ([(131, some 21), (133, some 23)], none), ([(128, some 18), (134, some 24)], none), ([(123, some 13), (135, some 25)], none), ([(13, none)], none), ([(3, none), (137, some 27)], none), ([(138, some 28)], none), ([(136, some 26), (139, some 29)], none), ([(13, none)], none), ([(7, none), (141, some 31)], none), ([(142, some 32)], none)] [(110, 0), (111, 1), (112, 2), (113, 3), (114, 4), (115, 5), (116, 6), (117, 7), (118, 8), (119, 9), (120, 10), (121, 11), (122, 12), (123, 13), (124, 14), (125, 15), (126, 16), (127, 17), (128, 18), (129, 19), (130, 20), (131, 21), (132, 22), (133, 23), (134, 24), (135, 25), (136, 26), (137, 27), (138, 28), (139, 29), (140, 30), (141, 31), (142, 32), (143, 33)] rfl (by kernel_rfl) (by kernel_rfl) (show Stable Grew _ from ⟨Is.stable _, Is.stable _, Is.stable _, Is.stable _, Is.stable _, Is.stable _, Is.stable _, Is.stable _, Is.stable _, Is.stable _, Is.stable _, Is.stable _, Is.stable _, Is.stable _, Is.stable _, Is.stable _, Is.stable _, Is.stable _, Is.stable _, Is.stable _, Is.stable _, Is.stable _, Is.stable _, Is.stable _, Is.stable _, Is.stable _, Is.stable _, Is.stable _, Is.stable _, Is.stable _, Is.stable _, Is.stable _, Is.stable _, Is.stable _, trivial⟩)
              · show OpsHold _ _ _ _ _ _ _ _ _
                refine ⟨fun a_ wx hR hD K hK => ?_, ?_⟩
                · have hG : Grew wr wx := (Grew.drew _).trans hR
                  simp [Deps, Dep, at_, Is] at hD
                  go_simp
                  exact hK _ _ (Grew.refl _) rfl
                refine ⟨fun a_ wx hR hD K hK => ?_, ?_⟩
                · have hG : Grew wr wx := (Grew.drew _).trans hR
                  simp [Deps, Dep, at_, Is] at hD
                  have e_ := pw_cell_below hG D7.out
                  go_simp
                  exact hK _ _ (Grew.refl _) rfl
                refine ⟨fun a_ wx hR hD K hK => ?_, ?_⟩
                · have hG : Grew wr wx := (Grew.drew _).trans hR
                  simp [Deps, Dep, at_, Is] at hD
                  go_simp
                  exact hK _ _ (Grew.refl _) rfl
                refine ⟨fun a_ wx hR hD K hK => ?_, ?_⟩
                · have hG : Grew wr wx := (Grew.drew _).trans hR
                  simp [Deps, Dep, at_, Is] at hD
                  have e_ := pw_cell_below hG D4.out
                  go_simp
                  exact hK _ _ (Grew.refl _) rfl
                refine ⟨fun a_ wx hR hD K hK => ?_, ?_⟩
                · have hG : Grew wr wx := (Grew.drew _).trans hR
                  simp [Deps, Dep, at_, Is] at hD
                  go_simp
                  have hcn := rturn_n e 6 6 rfl be (by omega) (by omega) wx
                  with_reducible refine hcn.mono ?_
                  clear hcn
                  rintro e wy ⟨v, rfl, hv, hg⟩
                  exact hK _ _ hg hv
                refine ⟨fun a_ wx hR hD K hK => ?_, ?_⟩
                · have hG : Grew wr wx := (Grew.drew _).trans hR
                  simp [Deps, Dep, at_, Is] at hD
                  go_simp
                  exact hK _ _ (Grew.refl _) rfl
                refine ⟨fun a_ wx hR hD K hK => ?_, ?_⟩
                · have hG : Grew wr wx := (Grew.drew _).trans hR
                  simp [Deps, Dep, at_, Is] at hD
                  have e_ := pw_cell_below hG D4.out
                  go_simp
                  exact hK _ _ (Grew.refl _) rfl
                refine ⟨fun a_ wx hR hD K hK => ?_, ?_⟩
                · have hG : Grew wr wx := (Grew.drew _).trans hR
                  simp [Deps, Dep, at_, Is] at hD
                  go_simp
                  have hcn := rturn_n e 11 11 rfl be (by omega) (by omega) wx
                  with_reducible refine hcn.mono ?_
                  clear hcn
                  rintro e wy ⟨v, rfl, hv, hg⟩
                  exact hK _ _ hg hv
                refine ⟨fun a_ wx hR hD K hK => ?_, ?_⟩
                · have hG : Grew wr wx := (Grew.drew _).trans hR
                  simp [Deps, Dep, at_, Is] at hD
                  obtain ⟨hd0, hd1⟩ := hD
                  go_simp
                  exact hK _ _ (Grew.refl _) rfl
                refine ⟨fun a_ wx hR hD K hK => ?_, ?_⟩
                · have hG : Grew wr wx := (Grew.drew _).trans hR
                  simp [Deps, Dep, at_, Is] at hD
                  go_simp
                  exact hK _ _ (Grew.refl _) rfl
                refine ⟨fun a_ wx hR hD K hK => ?_, ?_⟩
                · have hG : Grew wr wx := (Grew.drew _).trans hR
                  simp [Deps, Dep, at_, Is] at hD
                  have e_ := pw_cell_below hG D4.out
                  go_simp
                  exact hK _ _ (Grew.refl _) rfl
                refine ⟨fun a_ wx hR hD K hK => ?_, ?_⟩
                · have hG : Grew wr wx := (Grew.drew _).trans hR
                  simp [Deps, Dep, at_, Is] at hD
                  go_simp
                  have hcn := rturn_n e 25 25 rfl be (by omega) (by omega) wx
                  with_reducible refine hcn.mono ?_
                  clear hcn
                  rintro e wy ⟨v, rfl, hv, hg⟩
                  exact hK _ _ hg hv
                refine ⟨fun a_ wx hR hD K hK => ?_, ?_⟩
                · have hG : Grew wr wx := (Grew.drew _).trans hR
                  simp [Deps, Dep, at_, Is] at hD
                  obtain ⟨hd0, hd1⟩ := hD
                  go_simp
                  exact hK _ _ (Grew.refl _) rfl
                refine ⟨fun a_ wx hR hD K hK => ?_, ?_⟩
                · have hG : Grew wr wx := (Grew.drew _).trans hR
                  simp [Deps, Dep, at_, Is] at hD
                  obtain ⟨hd0, hd1⟩ := hD
                  go_simp
                  exact hK _ _ (Grew.refl _) rfl
                refine ⟨fun a_ wx hR hD K hK => ?_, ?_⟩
                · have hG : Grew wr wx := (Grew.drew _).trans hR
                  simp [Deps, Dep, at_, Is] at hD
                  go_simp
                  exact hK _ _ (Grew.refl _) rfl
                refine ⟨fun a_ wx hR hD K hK => ?_, ?_⟩
                · have hG : Grew wr wx := (Grew.drew _).trans hR
                  simp [Deps, Dep, at_, Is] at hD
                  have e_ := pw_cell_below hG D4.out
                  go_simp
                  exact hK _ _ (Grew.refl _) rfl
                refine ⟨fun a_ wx hR hD K hK => ?_, ?_⟩
                · have hG : Grew wr wx := (Grew.drew _).trans hR
                  simp [Deps, Dep, at_, Is] at hD
                  go_simp
                  exact hK _ _ (Grew.refl _) rfl
                refine ⟨fun a_ wx hR hD K hK => ?_, ?_⟩
                · have hG : Grew wr wx := (Grew.drew _).trans hR
                  simp [Deps, Dep, at_, Is] at hD
                  have e_ := pw_cell_below hG D5.out
                  go_simp
                  exact hK _ _ (Grew.refl _) rfl
                refine ⟨fun a_ wx hR hD K hK => ?_, ?_⟩
                · have hG : Grew wr wx := (Grew.drew _).trans hR
                  simp [Deps, Dep, at_, Is] at hD
                  obtain ⟨hd0, hd1⟩ := hD
                  go_simp
                  exact hK _ _ (Grew.refl _) rfl
                refine ⟨fun a_ wx hR hD K hK => ?_, ?_⟩
                · have hG : Grew wr wx := (Grew.drew _).trans hR
                  simp [Deps, Dep, at_, Is] at hD
                  go_simp
                  exact hK _ _ (Grew.refl _) rfl
                refine ⟨fun a_ wx hR hD K hK => ?_, ?_⟩
                · have hG : Grew wr wx := (Grew.drew _).trans hR
                  simp [Deps, Dep, at_, Is] at hD
                  have e_ := pw_cell_below hG D4.out
                  go_simp
                  exact hK _ _ (Grew.refl _) rfl
                refine ⟨fun a_ wx hR hD K hK => ?_, ?_⟩
                · have hG : Grew wr wx := (Grew.drew _).trans hR
                  simp [Deps, Dep, at_, Is] at hD
                  go_simp
                  exact hK _ _ (Grew.refl _) rfl
                refine ⟨fun a_ wx hR hD K hK => ?_, ?_⟩
                · have hG : Grew wr wx := (Grew.drew _).trans hR
                  simp [Deps, Dep, at_, Is] at hD
                  go_simp
                  exact hK _ _ (Grew.refl _) rfl
                refine ⟨fun a_ wx hR hD K hK => ?_, ?_⟩
                · have hG : Grew wr wx := (Grew.drew _).trans hR
                  simp [Deps, Dep, at_, Is] at hD
                  have e_ := pw_cell_below hG D6.out
                  go_simp
                  exact hK _ _ (Grew.refl _) rfl
                refine ⟨fun a_ wx hR hD K hK => ?_, ?_⟩
                · have hG : Grew wr wx := (Grew.drew _).trans hR
                  simp [Deps, Dep, at_, Is] at hD
                  obtain ⟨hd0, hd1⟩ := hD
                  go_simp
                  exact hK _ _ (Grew.refl _) rfl
                refine ⟨fun a_ wx hR hD K hK => ?_, ?_⟩
                · have hG : Grew wr wx := (Grew.drew _).trans hR
                  simp [Deps, Dep, at_, Is] at hD
                  obtain ⟨hd0, hd1⟩ := hD
                  go_simp
                  exact hK _ _ (Grew.refl _) rfl
                refine ⟨fun a_ wx hR hD K hK => ?_, ?_⟩
                · have hG : Grew wr wx := (Grew.drew _).trans hR
                  simp [Deps, Dep, at_, Is] at hD
                  obtain ⟨hd0, hd1⟩ := hD
                  go_simp
                  exact hK _ _ (Grew.refl _) rfl
                refine ⟨fun a_ wx hR hD K hK => ?_, ?_⟩
                · have hG : Grew wr wx := (Grew.drew _).trans hR
                  simp [Deps, Dep, at_, Is] at hD
                  go_simp
                  exact hK _ _ (Grew.refl _) rfl
                refine ⟨fun a_ wx hR hD K hK => ?_, ?_⟩
                · have hG : Grew wr wx := (Grew.drew _).trans hR
                  simp [Deps, Dep, at_, Is] at hD
                  obtain ⟨hd0, hd1⟩ := hD
                  go_simp
                  exact hK _ _ (Grew.refl _) rfl
                refine ⟨fun a_ wx hR hD K hK => ?_, ?_⟩
                · have hG : Grew wr wx := (Grew.drew _).trans hR
                  simp [Deps, Dep, at_, Is] at hD
                  have e_ := pw_cell_below hG CK.out
                  go_simp
                  exact hK _ _ (Grew.refl _) rfl
                refine ⟨fun a_ wx hR hD K hK => ?_, ?_⟩
                · have hG : Grew wr wx := (Grew.drew _).trans hR
                  simp [Deps, Dep, at_, Is] at hD
                  obtain ⟨hd0, hd1⟩ := hD
                  go_simp
                  exact hK _ _ (Grew.refl _) rfl
                refine ⟨fun a_ wx hR hD K hK => ?_, ?_⟩
                · have hG : Grew wr wx := (Grew.drew _).trans hR
                  simp [Deps, Dep, at_, Is] at hD
                  go_simp
                  exact hK _ _ (Grew.refl _) rfl
                refine ⟨fun a_ wx hR hD K hK => ?_, ?_⟩
                · have hG : Grew wr wx := (Grew.drew _).trans hR
                  simp [Deps, Dep, at_, Is] at hD
                  obtain ⟨hd0, hd1⟩ := hD
                  go_simp
                  exact hK _ _ (Grew.refl _) rfl
                refine ⟨fun a_ wx hR hD K hK => ?_, ?_⟩
                · have hG : Grew wr wx := (Grew.drew _).trans hR
                  simp [Deps, Dep, at_, Is] at hD
                  have e_ := pw_cell_below hG CX.out
                  go_simp
                  exact hK _ _ (Grew.refl _) rfl
                trivial
              · show EndHold _ _ _ _ _ _ _
                refine end_all (xs := [_, _, _, _, _, _, _, _, _, _, _, _, _, _, _, _, _, _, _, _, _, _, _, _, _, _, _, _, _, _, _, _, _, _]) ⟨rfl, rfl, rfl, rfl, rfl, rfl, rfl, rfl, rfl, rfl, rfl, rfl, rfl, rfl, rfl, rfl, rfl, rfl, rfl, rfl, rfl, rfl, rfl, rfl, rfl, rfl, rfl, rfl, rfl, rfl, rfl, rfl, rfl, rfl, trivial⟩ ?_
                rintro w6 hR1 -
                refine ⟨?_⟩
                have hG_w6 : Grew wr w6 := (Grew.drew _).trans hR1
                clear hR1
                simp only [Act.put, List.setIfInBounds_toArray, List.set_cons_succ, List.set_cons_zero, dropN, putEach]
                go_wp2_with fail
                clear q0 q1 q2 q3 q4 q5 q6 q7 q8 q9 CK CX
                have r1 := xor_w (rotW_lt 2 ba) (rotW_lt 13 ba)
                have r2 := xor_w (xorW_lt (rotW_lt 2 ba) (rotW_lt 13 ba)) (rotW_lt 22 ba)
                have r3 := and_w ba bb
                have r4 := and_w ba bc
                have r5 := and_w bb bc
                have r6 := xor_w (andW_lt b ba) (andW_lt c' ba)
                have r7 := xor_w (xorW_lt (andW_lt b ba) (andW_lt c' ba)) (andW_lt c' bb)
                obtain ⟨y1, hy1⟩ : ∃ y, y = xorW (xorW (rotW a 2) (rotW a 13)) (rotW a 22) := ⟨_, rfl⟩
                obtain ⟨y2, hy2⟩ : ∃ y, y = xorW (xorW (andW a b) (andW a c')) (andW b c') := ⟨_, rfl⟩
                rw [← hy1] at r2
                rw [← hy2] at r7
                obtain ⟨u, hu⟩ : ∃ u, u = addW (addW (addW z1 z2) k) y := ⟨_, rfl⟩
                rw [← hu]
                have HU := Lib.hid (show u = uW ⟨a, b, c', d, e, f, g, hh⟩ k y from by rw [hu, HZ1.out, HZ2.out]; rfl)
                have HV := Lib.hid (show addW y1 y2 = vW ⟨a, b, c', d, e, f, g, hh⟩ from by rw [hy1, hy2]; rfl)
                have r8 := add_w y1 y2
                have r9 := add_w u (addW y1 y2)
                have r10 := add_w d u
                have E0 := Lib.hid (pw_cell_below hG_w6 D0.out)
                have E1 := Lib.hid (pw_cell_below hG_w6 D1.out)
                have E2 := Lib.hid (pw_cell_below hG_w6 D2.out)
                clear hu hy1 hy2 HZ1 HZ2
                apply region_grew [Is _, Is _, Is _, Is _, Is _, Is _, Is _, Is _, Is _, Is _, Is _, Is _, Is _, Is _, Is _, Is _, Is _, Is _, Is _, Is _, Is _, Is _, Is _, Is _, Is _, Is _, Is _, Is _] [([(12, none)], none), ([(145, some 0)], none), ([(146, some 1)], none), ([(12, none)], none), ([(148, some 3)], none), ([(149, some 4)], none), ([(147, some 2), (150, some 5)], none), ([(12, none)], none), ([(152, some 7)], none), ([(153, some 8)], none), ([(151, some 6), (154, some 9)], none), ([(12, none)], none), ([(156, some 11)], none), ([(12, none)], none), ([(158, some 13)], none), ([(157, some 12), (159, some 14)], none), ([(12, none)], none), ([(161, some 16)], none), ([(12, none)], none), ([(163, some 18)], none), ([(162, some 17), (164, some 19)], none), ([(160, some 15), (165, some 20)], none), ([(12, none)], none), ([(167, some 22)], none), ([(12, none)], none), ([(169, some 24)], none), ([(168, some 23), (170, some 25)], none), ([(166, some 21), (171, some 26)], none)] [(145, 0), (146, 1), (147, 2), (148, 3), (149, 4), (150, 5), (151, 6), (152, 7), (153, 8), (154, 9), (155, 10), (156, 11), (157, 12), (158, 13), (159, 14), (160, 15), (161, 16), (162, 17), (163, 18), (164, 19), (165, 20), (166, 21), (167, 22), (168, 23), (169, 24), (170, 25), (171, 26), (172, 27)] rfl (by kernel_rfl) (by kernel_rfl) (show Stable Grew _ from ⟨Is.stable _, Is.stable _, Is.stable _, Is.stable _, Is.stable _, Is.stable _, Is.stable _, Is.stable _, Is.stable _, Is.stable _, Is.stable _, Is.stable _, Is.stable _, Is.stable _, Is.stable _, Is.stable _, Is.stable _, Is.stable _, Is.stable _, Is.stable _, Is.stable _, Is.stable _, Is.stable _, Is.stable _, Is.stable _, Is.stable _, Is.stable _, Is.stable _, trivial⟩)
                · show OpsHold _ _ _ _ _ _ _ _ _
                  refine ⟨fun a_ wx hR hD K hK => ?_, ?_⟩
                  · have hG : Grew w6 wx := (Grew.drew _).trans hR
                    simp [Deps, Dep, at_, Is] at hD
                    go_simp
                    exact hK _ _ (Grew.refl _) rfl
                  refine ⟨fun a_ wx hR hD K hK => ?_, ?_⟩
                  · have hG : Grew w6 wx := (Grew.drew _).trans hR
                    simp [Deps, Dep, at_, Is] at hD
                    have e_ := pw_cell_below hG E0.out
                    go_simp
                    exact hK _ _ (Grew.refl _) rfl
                  refine ⟨fun a_ wx hR hD K hK => ?_, ?_⟩
                  · have hG : Grew w6 wx := (Grew.drew _).trans hR
                    simp [Deps, Dep, at_, Is] at hD
                    go_simp
                    have hcn := rturn_n a 2 2 rfl ba (by omega) (by omega) wx
                    with_reducible refine hcn.mono ?_
                    clear hcn
                    rintro e wy ⟨v, rfl, hv, hg⟩
                    exact hK _ _ hg hv
                  refine ⟨fun a_ wx hR hD K hK => ?_, ?_⟩
                  · have hG : Grew w6 wx := (Grew.drew _).trans hR
                    simp [Deps, Dep, at_, Is] at hD
                    go_simp
                    exact hK _ _ (Grew.refl _) rfl
                  refine ⟨fun a_ wx hR hD K hK => ?_, ?_⟩
                  · have hG : Grew w6 wx := (Grew.drew _).trans hR
                    simp [Deps, Dep, at_, Is] at hD
                    have e_ := pw_cell_below hG E0.out
                    go_simp
                    exact hK _ _ (Grew.refl _) rfl
                  refine ⟨fun a_ wx hR hD K hK => ?_, ?_⟩
                  · have hG : Grew w6 wx := (Grew.drew _).trans hR
                    simp [Deps, Dep, at_, Is] at hD
                    go_simp
                    have hcn := rturn_n a 13 13 rfl ba (by omega) (by omega) wx
                    with_reducible refine hcn.mono ?_
                    clear hcn
                    rintro e wy ⟨v, rfl, hv, hg⟩
                    exact hK _ _ hg hv
                  refine ⟨fun a_ wx hR hD K hK => ?_, ?_⟩
                  · have hG : Grew w6 wx := (Grew.drew _).trans hR
                    simp [Deps, Dep, at_, Is] at hD
                    obtain ⟨hd0, hd1⟩ := hD
                    go_simp
                    exact hK _ _ (Grew.refl _) rfl
                  refine ⟨fun a_ wx hR hD K hK => ?_, ?_⟩
                  · have hG : Grew w6 wx := (Grew.drew _).trans hR
                    simp [Deps, Dep, at_, Is] at hD
                    go_simp
                    exact hK _ _ (Grew.refl _) rfl
                  refine ⟨fun a_ wx hR hD K hK => ?_, ?_⟩
                  · have hG : Grew w6 wx := (Grew.drew _).trans hR
                    simp [Deps, Dep, at_, Is] at hD
                    have e_ := pw_cell_below hG E0.out
                    go_simp
                    exact hK _ _ (Grew.refl _) rfl
                  refine ⟨fun a_ wx hR hD K hK => ?_, ?_⟩
                  · have hG : Grew w6 wx := (Grew.drew _).trans hR
                    simp [Deps, Dep, at_, Is] at hD
                    go_simp
                    have hcn := rturn_n a 22 22 rfl ba (by omega) (by omega) wx
                    with_reducible refine hcn.mono ?_
                    clear hcn
                    rintro e wy ⟨v, rfl, hv, hg⟩
                    exact hK _ _ hg hv
                  refine ⟨fun a_ wx hR hD K hK => ?_, ?_⟩
                  · have hG : Grew w6 wx := (Grew.drew _).trans hR
                    simp [Deps, Dep, at_, Is] at hD
                    obtain ⟨hd0, hd1⟩ := hD
                    go_simp
                    exact hK _ _ (Grew.refl _) rfl
                  refine ⟨fun a_ wx hR hD K hK => ?_, ?_⟩
                  · have hG : Grew w6 wx := (Grew.drew _).trans hR
                    simp [Deps, Dep, at_, Is] at hD
                    go_simp
                    exact hK _ _ (Grew.refl _) rfl
                  refine ⟨fun a_ wx hR hD K hK => ?_, ?_⟩
                  · have hG : Grew w6 wx := (Grew.drew _).trans hR
                    simp [Deps, Dep, at_, Is] at hD
                    have e_ := pw_cell_below hG E0.out
                    go_simp
                    exact hK _ _ (Grew.refl _) rfl
                  refine ⟨fun a_ wx hR hD K hK => ?_, ?_⟩
                  · have hG : Grew w6 wx := (Grew.drew _).trans hR
                    simp [Deps, Dep, at_, Is] at hD
                    go_simp
                    exact hK _ _ (Grew.refl _) rfl
                  refine ⟨fun a_ wx hR hD K hK => ?_, ?_⟩
                  · have hG : Grew w6 wx := (Grew.drew _).trans hR
                    simp [Deps, Dep, at_, Is] at hD
                    have e_ := pw_cell_below hG E1.out
                    go_simp
                    exact hK _ _ (Grew.refl _) rfl
                  refine ⟨fun a_ wx hR hD K hK => ?_, ?_⟩
                  · have hG : Grew w6 wx := (Grew.drew _).trans hR
                    simp [Deps, Dep, at_, Is] at hD
                    obtain ⟨hd0, hd1⟩ := hD
                    go_simp
                    exact hK _ _ (Grew.refl _) rfl
                  refine ⟨fun a_ wx hR hD K hK => ?_, ?_⟩
                  · have hG : Grew w6 wx := (Grew.drew _).trans hR
                    simp [Deps, Dep, at_, Is] at hD
                    go_simp
                    exact hK _ _ (Grew.refl _) rfl
                  refine ⟨fun a_ wx hR hD K hK => ?_, ?_⟩
                  · have hG : Grew w6 wx := (Grew.drew _).trans hR
                    simp [Deps, Dep, at_, Is] at hD
                    have e_ := pw_cell_below hG E0.out
                    go_simp
                    exact hK _ _ (Grew.refl _) rfl
                  refine ⟨fun a_ wx hR hD K hK => ?_, ?_⟩
                  · have hG : Grew w6 wx := (Grew.drew _).trans hR
                    simp [Deps, Dep, at_, Is] at hD
                    go_simp
                    exact hK _ _ (Grew.refl _) rfl
                  refine ⟨fun a_ wx hR hD K hK => ?_, ?_⟩
                  · have hG : Grew w6 wx := (Grew.drew _).trans hR
                    simp [Deps, Dep, at_, Is] at hD
                    have e_ := pw_cell_below hG E2.out
                    go_simp
                    exact hK _ _ (Grew.refl _) rfl
                  refine ⟨fun a_ wx hR hD K hK => ?_, ?_⟩
                  · have hG : Grew w6 wx := (Grew.drew _).trans hR
                    simp [Deps, Dep, at_, Is] at hD
                    obtain ⟨hd0, hd1⟩ := hD
                    go_simp
                    exact hK _ _ (Grew.refl _) rfl
                  refine ⟨fun a_ wx hR hD K hK => ?_, ?_⟩
                  · have hG : Grew w6 wx := (Grew.drew _).trans hR
                    simp [Deps, Dep, at_, Is] at hD
                    obtain ⟨hd0, hd1⟩ := hD
                    go_simp
                    exact hK _ _ (Grew.refl _) rfl
                  refine ⟨fun a_ wx hR hD K hK => ?_, ?_⟩
                  · have hG : Grew w6 wx := (Grew.drew _).trans hR
                    simp [Deps, Dep, at_, Is] at hD
                    go_simp
                    exact hK _ _ (Grew.refl _) rfl
                  refine ⟨fun a_ wx hR hD K hK => ?_, ?_⟩
                  · have hG : Grew w6 wx := (Grew.drew _).trans hR
                    simp [Deps, Dep, at_, Is] at hD
                    have e_ := pw_cell_below hG E1.out
                    go_simp
                    exact hK _ _ (Grew.refl _) rfl
                  refine ⟨fun a_ wx hR hD K hK => ?_, ?_⟩
                  · have hG : Grew w6 wx := (Grew.drew _).trans hR
                    simp [Deps, Dep, at_, Is] at hD
                    go_simp
                    exact hK _ _ (Grew.refl _) rfl
                  refine ⟨fun a_ wx hR hD K hK => ?_, ?_⟩
                  · have hG : Grew w6 wx := (Grew.drew _).trans hR
                    simp [Deps, Dep, at_, Is] at hD
                    have e_ := pw_cell_below hG E2.out
                    go_simp
                    exact hK _ _ (Grew.refl _) rfl
                  refine ⟨fun a_ wx hR hD K hK => ?_, ?_⟩
                  · have hG : Grew w6 wx := (Grew.drew _).trans hR
                    simp [Deps, Dep, at_, Is] at hD
                    obtain ⟨hd0, hd1⟩ := hD
                    go_simp
                    exact hK _ _ (Grew.refl _) rfl
                  refine ⟨fun a_ wx hR hD K hK => ?_, ?_⟩
                  · have hG : Grew w6 wx := (Grew.drew _).trans hR
                    simp [Deps, Dep, at_, Is] at hD
                    obtain ⟨hd0, hd1⟩ := hD
                    go_simp
                    exact hK _ _ (Grew.refl _) rfl
                  trivial
                · show EndHold _ _ _ _ _ _ _
                  refine end_all (xs := [_, _, _, _, _, _, _, _, _, _, _, _, _, _, _, _, _, _, _, _, _, _, _, _, _, _, _, _]) ⟨rfl, rfl, rfl, rfl, rfl, rfl, rfl, rfl, rfl, rfl, rfl, rfl, rfl, rfl, rfl, rfl, rfl, rfl, rfl, rfl, rfl, rfl, rfl, rfl, rfl, rfl, rfl, rfl, trivial⟩ ?_
                  rintro w7 hR1 -
                  refine ⟨?_⟩
                  have hG_w7 : Grew w6 w7 := (Grew.drew _).trans hR1
                  clear hR1
                  simp only [Act.put, List.setIfInBounds_toArray, List.set_cons_succ, List.set_cons_zero, dropN, putEach]
                  have hGG := hG_w6.trans hG_w7
                  have F0 := pw_cell_below hGG D0.out
                  have F1 := pw_cell_below hGG D1.out
                  have F2 := pw_cell_below hGG D2.out
                  have F3 := pw_cell_below hGG D3.out
                  have F4 := pw_cell_below hGG D4.out
                  have F5 := pw_cell_below hGG D5.out
                  have F6 := pw_cell_below hGG D6.out
                  have HM7 := Lib.hid (HM.out.grew hGG)
                  clear D0 D1 D2 D3 D4 D5 D6 D7 E0 E1 E2 HM
                  go_wp2_with (refine wpList_store_blk (c := wcells [addW u (addW y1 y2), a, b, c', addW d u, e, f, g]) HM7.out.bz (by rfl) 40 (.tmp 12) (.tmp 193) (by rfl) (by rfl) (by rfl) (by rw [wcells_len]; kernel_rfl) (by rw [wcells_len, wcells_len]; rfl) (wcells_one _) ?_)
                  go_roundw
                  case rel =>
                    refine ⟨t + 1, by go_num, by omega, ?_⟩
                    rw [HST.out]
                    have h := HM7.out.setz [addW u (addW y1 y2), a, b, c', addW d u, e, f, g]
                    rw [HV.out, HU.out] at h ⊢
                    exact h
                  case measure => simp [intOf]; omega
            · have d1 : decide ((t : Int) < 64) = false := decide_eq_false (by omega)
              obtain rfl : t = 64 := by omega
              obtain ⟨z, hz⟩ : ∃ z, z = (rn ks x 64 S0).list := ⟨_, rfl⟩
              have hzl : z.length = 8 := by rw [hz]; rfl
              rw [← hz] at hmq
              have HZ := Lib.hid hz
              have HZL := Lib.hid hzl
              clear hz hzl
              have hs0 : sumTo s z 0 = s := sumTo_0 s z HSL.out
              have hm2 : MixZ w ks (sumTo s z 0) x z gz wr := by rw [hs0]; exact hmq
              clear hs0 hmq
              go_wp2_with fail
              try rw [show ((64 : Nat) : Int) = 64 from rfl]
              go_loopw [16] (fun iv wq => ∃ i : Nat, iv = .int .i64 (i : Int) ∧ i ≤ 8 ∧ MixZ w ks (sumTo s z i) x z gz wq) (fun iv _ => 8 - (intOf iv).toNat)
              case atStart => exact ⟨0, rfl, by omega, hm2⟩
              case round =>
                obtain ⟨i, rfl, hi, hmi⟩ := hrel
                clear hm2
                by_cases hi8 : i < 8
                · have d1 : decide ((i : Int) < 8) = true := decide_eq_true (by omega)
                  have i1 : (i : Int) < 8 := by omega
                  have c1 := hmi.m.b0.at_ i
                  rw [cells_get _ _ (by rw [sumTo_len]; omega), sumTo_at _ _ _ hi8] at c1
                  have cz := hmi.bz.at_ i
                  rw [cells_get _ _ (by rw [HZL.out]; omega)] at cz
                  have q1 := add_w (s.getD i 0) (z.getD i 0)
                  obtain ⟨si, hsi⟩ : ∃ si, si = s.getD i 0 := ⟨_, rfl⟩
                  obtain ⟨zi, hzi⟩ : ∃ zi, zi = z.getD i 0 := ⟨_, rfl⟩
                  rw [← hzi] at cz q1
                  rw [← hsi] at c1 q1
                  have HSI := Lib.hid hsi
                  have HZI := Lib.hid hzi
                  have HM := Lib.hid hmi
                  have C1 := Lib.hid c1
                  have CZ := Lib.hid cz
                  clear hsi hzi hmi c1 cz
                  go_wp2_with fail
                  apply region_grew [Is _, Is _, Is _, Is _, Is _, Is _, Is _, Is _] [([(16, none)], none), ([(16, none)], none), ([(4, none), (199, some 1)], none), ([(200, some 2)], none), ([(16, none)], none), ([(12, none), (202, some 4)], none), ([(203, some 5)], none), ([(201, some 3), (204, some 6)], none)] [(198, 0), (199, 1), (200, 2), (201, 3), (202, 4), (203, 5), (204, 6), (205, 7)] rfl (by kernel_rfl) (by kernel_rfl) (show Stable Grew _ from ⟨Is.stable _, Is.stable _, Is.stable _, Is.stable _, Is.stable _, Is.stable _, Is.stable _, Is.stable _, trivial⟩)
                  · show OpsHold _ _ _ _ _ _ _ _ _
                    refine ⟨fun a_ wx hR hD K hK => ?_, ?_⟩
                    · have hG : Grew wr wx := (Grew.drew _).trans hR
                      simp [Deps, Dep, at_, Is] at hD
                      go_simp
                      exact hK _ _ (Grew.refl _) rfl
                    refine ⟨fun a_ wx hR hD K hK => ?_, ?_⟩
                    · have hG : Grew wr wx := (Grew.drew _).trans hR
                      simp [Deps, Dep, at_, Is] at hD
                      go_simp
                      exact hK _ _ (Grew.refl _) rfl
                    refine ⟨fun a_ wx hR hD K hK => ?_, ?_⟩
                    · have hG : Grew wr wx := (Grew.drew _).trans hR
                      simp [Deps, Dep, at_, Is] at hD
                      obtain ⟨hd0, hd1⟩ := hD
                      go_simp
                      exact hK _ _ (Grew.refl _) rfl
                    refine ⟨fun a_ wx hR hD K hK => ?_, ?_⟩
                    · have hG : Grew wr wx := (Grew.drew _).trans hR
                      simp [Deps, Dep, at_, Is] at hD
                      have e_ := pw_cell_below hG C1.out
                      go_simp
                      exact hK _ _ (Grew.refl _) rfl
                    refine ⟨fun a_ wx hR hD K hK => ?_, ?_⟩
                    · have hG : Grew wr wx := (Grew.drew _).trans hR
                      simp [Deps, Dep, at_, Is] at hD
                      go_simp
                      exact hK _ _ (Grew.refl _) rfl
                    refine ⟨fun a_ wx hR hD K hK => ?_, ?_⟩
                    · have hG : Grew wr wx := (Grew.drew _).trans hR
                      simp [Deps, Dep, at_, Is] at hD
                      obtain ⟨hd0, hd1⟩ := hD
                      go_simp
                      exact hK _ _ (Grew.refl _) rfl
                    refine ⟨fun a_ wx hR hD K hK => ?_, ?_⟩
                    · have hG : Grew wr wx := (Grew.drew _).trans hR
                      simp [Deps, Dep, at_, Is] at hD
                      have e_ := pw_cell_below hG CZ.out
                      go_simp
                      exact hK _ _ (Grew.refl _) rfl
                    refine ⟨fun a_ wx hR hD K hK => ?_, ?_⟩
                    · have hG : Grew wr wx := (Grew.drew _).trans hR
                      simp [Deps, Dep, at_, Is] at hD
                      obtain ⟨hd0, hd1⟩ := hD
                      go_simp
                      exact hK _ _ (Grew.refl _) rfl
                    trivial
                  · show EndHold _ _ _ _ _ _ _
                    refine end_all (xs := [_, _, _, _, _, _, _, _]) ⟨rfl, rfl, rfl, rfl, rfl, rfl, rfl, rfl, trivial⟩ ?_
                    rintro w6 hR1 -
                    refine ⟨?_⟩
                    have hG_w6 : Grew wr w6 := (Grew.drew _).trans hR1
                    clear hR1
                    simp only [Act.put, List.setIfInBounds_toArray, List.set_cons_succ, List.set_cons_zero, dropN, putEach]
                    have HM6 := Lib.hid (HM.out.grew hG_w6)
                    have c1 := HM6.out.m.b0.at_ i
                    rw [cells_get _ _ (by rw [sumTo_len]; omega), sumTo_at _ _ _ hi8, ← HSI.out] at c1
                    have c2 := HM6.out.m.b0.fz i
                    go_wp2_with fail
                    go_roundw
                    case rel =>
                      refine ⟨i + 1, by go_num, by omega, ?_⟩
                      have h := HM6.out.set0 i (addW si zi)
                      rw [HSI.out, HZI.out, sumTo_succ _ _ _ hi8] at h
                      rw [HSI.out, HZI.out]
                      exact h
                    case measure => simp [intOf]; omega
                · have d1 : decide ((i : Int) < 8) = false := decide_eq_false (by omega)
                  obtain rfl : i = 8 := by omega
                  rw [show sumTo s z 8 = mixL ks s l from by rw [HZ.out, HX.out, HS.out]; rfl] at hmi
                  have H0 := Lib.hid hmi.m.b0
                  have H1 := Lib.hid hmi.m.b1
                  have HG := Lib.hid hmi.m.gr
                  clear hmi
                  go_wp2_with (first
                    | refine wpList_load_blk H0.out (by rfl) 40 (.tmp 4) (by rfl) (by rfl) _ Try.underlying40 (by rfl) (by rw [wcells_len, mixL_len]; kernel_rfl) ?_
                    | refine wpList_store_blk (c := wcells (mixL ks s l)) H1.out (by rfl) 40 (.tmp 6) (.tmp 207) (by rfl) (by rfl) (by rfl) (by rw [wcells_len, mixL_len]; kernel_rfl) (by rw [wcells_len, wcells_len, mixL_len]; rfl) (wcells_one _) ?_)
                  refine bodyPost_ret (results_blk rfl _ (H1.out.setRow (wcells (mixL ks s l))) _ (by rfl) Try.underlying40 (by rfl) (by rw [wcells_len, mixL_len]; kernel_rfl)) rfl ?_
                  exact ⟨_, rfl, rfl, Grew.setRow HG.out (by omega) _⟩
end Go.Proofs.Ytphkohdfdkmpcaa.F

-- ShaL
namespace Go.Proofs.Ytphkohdfdkmpcaa.F
open Go Go.RowKit Go.Proofs.YtphkohdfdkmpcaaW.PrintWords Go.Proofs.YtphkohdfdkmpcaaW.PrintLast Go.Proofs.YtphkohdfdkmpcaaW.PrintMore Go.Proofs.YtphkohdfdkmpcaaR
set_option linter.unusedSimpArgs false
set_option linter.unusedVariables false
set_option maxRecDepth 100000
set_option maxHeartbeats 2000000 in
theorem words_c (w : World) : Calls Try.prog 25 #[] w (Tells w (Is (.agg (wcells kL).toArray))) := by
  go_enter Try.func25, Try.ntmps25
  go_wp2_with fail
  rw [zeros64]
  have hb0 : Blk ((w.alloc (.cells (wcells (arr64 [])).toArray 45)).alloc (.cells (wcells (arr64 [])).toArray 45)) w.heap.size 45 (wcells (arr64 [])) := (Blk.new w _ _).grew (Grew.alloc _ _)
  have hb1 : Blk ((w.alloc (.cells (wcells (arr64 [])).toArray 45)).alloc (.cells (wcells (arr64 [])).toArray 45)) (w.heap.size + 1) 45 (wcells (arr64 [])) := by simpa using Blk.new (w.alloc (.cells (wcells (arr64 [])).toArray 45)) 45 (wcells (arr64 []))
  have hgw : Grew w ((w.alloc (.cells (wcells (arr64 [])).toArray 45)).alloc (.cells (wcells (arr64 [])).toArray 45)) := (Grew.alloc _ _).trans (Grew.alloc _ _)
  obtain ⟨W, hW⟩ : ∃ W, W = ((w.alloc (.cells (wcells (arr64 [])).toArray 45)).alloc (.cells (wcells (arr64 [])).toArray 45)) := ⟨_, rfl⟩
  rw [← hW] at hb0 hb1 hgw ⊢
  clear hW
  have hk2 : kAt 2 = [] := rfl
  rw [← hk2] at hb1
  go_loopw [2, 3] (fun nv pv wr => ∃ p : Nat, 2 ≤ p ∧ p ≤ 312 ∧ pv = .int .u32 (p : Int) ∧ nv = .int .i64 ((cnt p : Nat) : Int) ∧ Blk wr w.heap.size 45 (wcells (arr64 [])) ∧ Blk wr (w.heap.size + 1) 45 (wcells (arr64 (kAt p))) ∧ Grew w wr) (fun _ pv _ => 312 - (intOf pv).toNat)
  case atStart => exact ⟨2, by omega, by omega, rfl, rfl, hb0, hb1, hgw⟩
  case round =>
    obtain ⟨p, h2, h312, rfl, rfl, hz, hk, hg⟩ := hrel
    have hc := cnt_low p h2 h312
    by_cases hlt : cnt p < 64
    · have d1 : decide (((cnt p : Nat) : Int) < 64) = true := decide_eq_true (by omega)
      have hp3 := hc.2.1 hlt
      have hks := kAt_succ p h2
      have hcs := cnt_succ p h2
      clear hb0 hb1 hgw hk2
      cases hw : wholeN p
      · rw [hw] at hks hcs
        rw [if_neg (by simp), List.append_nil] at hks
        rw [if_neg (by simp), Nat.add_zero] at hcs
        have HK := Lib.hid hk
        have HZ := Lib.hid hz
        have HKS := Lib.hid hks
        have HCS := Lib.hid hcs
        have hwc := rwhole_c p (by omega) wr
        rw [hw] at hwc
        have HW := Lib.hid hwc
        clear hk hz hks hcs hw hc hwc
        go_wp2_with fail
        refine HW.out.mono ?_
        rintro e w1 ⟨_, rfl, rfl, hg1⟩
        go_wp2_with fail
        go_roundw
        case rel => exact ⟨p + 1, by omega, by omega, by go_num, by rw [HCS.out, Nat.add_zero], HZ.out.grew hg1, by rw [HKS.out]; exact HK.out.grew hg1, hg.trans hg1⟩
        case measure => simp [intOf]; omega
      · rw [hw] at hks hcs
        rw [if_pos rfl] at hks hcs
        have HK := Lib.hid hk
        have HZ := Lib.hid hz
        have HKS := Lib.hid hks
        have HCS := Lib.hid hcs
        have hwc := rwhole_c p (by omega) wr
        rw [hw] at hwc
        have HW := Lib.hid hwc
        clear hk hz hks hcs hw hc hwc
        go_wp2_with fail
        refine HW.out.mono ?_
        rintro e w1 ⟨_, rfl, rfl, hg1⟩
        go_wp2_with fail
        have hrc : Calls Try.prog 15 #[.int .u32 p, .bool true] w1 (Tells w1 (Is (.int .u32 ((rootw p : Nat) : Int)))) := rroot_c p (by omega) true w1
        refine hrc.mono ?_
        rintro e w2 ⟨_, rfl, rfl, hg2⟩
        have hk2 := HK.out.grew (hg1.trans hg2)
        have hz2 := HZ.out.grew (hg1.trans hg2)
        have hlen : (arr64 (kAt p)).length = 64 := arr_len _ (by rw [kAt_len]; omega)
        have c1 := hk2.at_ (cnt p)
        rw [cells_get _ _ (by omega)] at c1
        have c2 := hk2.fz (cnt p)
        clear hrc
        go_wp2_with fail
        go_roundw
        case rel =>
          refine ⟨p + 1, by omega, by omega, by go_num, by rw [HCS.out]; simp, hz2.far (by simp) _, ?_, ((Upd.of_grew (S := fun _ => False) (hg.trans (hg1.trans hg2))).set (.inr (by simp)) _).grew (by simp)⟩
          have h5 := hk2.set (cnt p) (.int .u32 ((rootw p : Nat) : Int))
          have h6 := arr_set (kAt p) (by rw [kAt_len]; omega) (rootw p)
          rw [kAt_len] at h6
          rw [h6, ← HKS.out] at h5
          exact h5
        case measure => simp [intOf]; omega
    · have d1 : decide (((cnt p : Nat) : Int) < 64) = false := decide_eq_false (by omega)
      obtain rfl : p = 312 := hc.2.2 (by omega)
      rw [arr_kL] at hk
      have HK := Lib.hid hk
      have HZ := Lib.hid hz
      clear hk hz hc hb0 hb1 hk2 hgw
      go_wp2_with (first
        | refine wpList_load_blk HK.out (by rfl) 45 (.tmp 1) (by rfl) (by rfl) _ Try.underlying45 (by rfl) (by rw [wcells_len, kL_len]; kernel_rfl) ?_
        | refine wpList_store_blk (c := wcells kL) HZ.out (by rfl) 45 (.tmp 0) (.tmp 16) (by rfl) (by rfl) (by rfl) (by rw [wcells_len, kL_len]; kernel_rfl) (by rw [wcells_len, wcells_len, kL_len]; rfl) (wcells_one kL) ?_)
      refine bodyPost_ret (results_blk rfl _ (HZ.out.setRow (wcells kL)) _ (by rfl) Try.underlying45 (by rfl) (by rw [wcells_len, kL_len]; kernel_rfl)) rfl ?_
      exact ⟨_, rfl, rfl, Grew.setRow hg (Nat.le_refl _) _⟩
end Go.Proofs.Ytphkohdfdkmpcaa.F

-- ShaR
namespace Go.Proofs.Ytphkohdfdkmpcaa.F
open Go Go.RowKit Go.Proofs.YtphkohdfdkmpcaaW.PrintWords Go.Proofs.YtphkohdfdkmpcaaW.PrintLast Go.Proofs.YtphkohdfdkmpcaaW.PrintMore Go.Proofs.YtphkohdfdkmpcaaR
attribute [local go_sem] max2_int min2_int max_two min_two
set_option linter.unusedSimpArgs false
set_option linter.unusedVariables false
set_option maxRecDepth 100000
theorem str_extract (l : List Int) (a b : Nat) : (strOfNums l).extract a b = strOfNums ((l.drop a).take (b - a)) := by
  show (ByteArray.mk (l.map fun n => UInt8.ofNat n.toNat).toArray).extract a b = ByteArray.mk (((l.drop a).take (b - a)).map fun n => UInt8.ofNat n.toNat).toArray
  rw [ByteArray.extract_mk, List.map_take, List.map_drop]
/-- bytes that may be read -/
def RowV (n : Nat) (l : List Int) : World → Value → Prop := fun w v => ∃ A c, v = .slice A n c ∧ Kd.C (Kd.int .u8) w A n l
theorem RowV.stable (n : Nat) (l : List Int) : ∀ w w' v, Grew w w' → RowV n l w v → RowV n l w' v := fun _ _ _ hg ⟨A, c, h1, h2⟩ => ⟨A, c, h1, Kd.C_below h2 hg⟩
set_option maxHeartbeats 4000000 in
theorem rsum_c (w : World) (l : List Int) (hl : l.length ≤ 1000000000) (hb : ∀ y ∈ l, 0 ≤ y ∧ y < 256) :
    Calls Try.prog 19 #[.string (strOfNums l)] w (Tells w (Is (.string (strOfNums (shaL l))))) := by
  have hsz := str_size l
  obtain ⟨B, hB⟩ : ∃ B, B = strOfNums l := ⟨_, rfl⟩
  rw [← hB] at hsz ⊢
  obtain ⟨n, hn⟩ : ∃ n, n = l.length := ⟨_, rfl⟩
  rw [← hn] at hsz hl
  have HB := Lib.hid hB
  have HN := Lib.hid hn
  have HL := Lib.hid hl
  have HBB := Lib.hid hb
  have HSZ := Lib.hid hsz
  clear hB hn hl hb hsz
  go_enter Try.func19, Try.ntmps19
  go_wp2_with fail
  refine (words_c w).mono ?_
  rintro e w1 ⟨_, rfl, rfl, hg1⟩
  go_wp2_with (refine wpList_store_blk (c := wcells kL) (Blk.new _ 45 (wcells (arr64 []))) (by rfl) 45 (.tmp 3) (.tmp 10) (by rfl) (by rfl) (by rfl) (by rw [wcells_len, kL_len]; kernel_rfl) (by rw [wcells_len, wcells_len, kL_len]; rfl) (wcells_one _) ?_)
  simp only [zeros64, zeros8]
  obtain ⟨gk, hgk⟩ : ∃ gk, gk = w1.heap.size := ⟨_, rfl⟩
  have hk0 : Blk (((w1.alloc (.cells (wcells (arr64 [])).toArray 45)).setRow w1.heap.size (wcells kL).toArray).alloc (.cells (wcells (List.replicate 8 0)).toArray 40)) w1.heap.size 45 (wcells kL) := ((Blk.new w1 _ _).setRow _).grew (Grew.alloc _ _)
  have hs0 : Blk (((w1.alloc (.cells (wcells (arr64 [])).toArray 45)).setRow w1.heap.size (wcells kL).toArray).alloc (.cells (wcells (List.replicate 8 0)).toArray 40)) (w1.heap.size + 1) 40 (wcells (s0To 0)) := by
    have h := Blk.new ((w1.alloc (.cells (wcells (arr64 [])).toArray 45)).setRow w1.heap.size (wcells kL).toArray) 40 (wcells (List.replicate 8 0))
    rw [setRow_size] at h
    rw [s0To_0]
    simpa using h
  have hg0 : Grew w1 (((w1.alloc (.cells (wcells (arr64 [])).toArray 45)).setRow w1.heap.size (wcells kL).toArray).alloc (.cells (wcells (List.replicate 8 0)).toArray 40)) := (Grew.setRow (Grew.alloc _ _) (Nat.le_refl _) _).trans (Grew.alloc _ _)
  have hgw0 := Grew.trans hg1 hg0
  have hgl : w.heap.size ≤ gk := by rw [hgk]; exact hg1.size
  rw [← hgk] at hk0 hs0 hgw0 ⊢
  obtain ⟨W5, hW5⟩ : ∃ W5, W5 = (((w1.alloc (.cells (wcells (arr64 [])).toArray 45)).setRow gk (wcells kL).toArray).alloc (.cells (wcells (List.replicate 8 0)).toArray 40)) := ⟨_, rfl⟩
  rw [← hW5] at hk0 hs0 hgw0 ⊢
  clear hgk hW5 hg0 hg1
  go_loopw [5] (fun iv wq => ∃ i : Nat, iv = .int .i64 (i : Int) ∧ i ≤ 8 ∧ Blk wq gk 45 (wcells kL) ∧ Blk wq (gk + 1) 40 (wcells (s0To i)) ∧ Grew w wq) (fun iv _ => 8 - (intOf iv).toNat)
  case atStart => exact ⟨0, rfl, by omega, hk0, hs0, hgw0⟩
  case round =>
    obtain ⟨i, rfl, hi, hk, hs, hg⟩ := hrel
    clear hk0 hs0 hgw0
    by_cases hi8 : i < 8
    · have d1 : decide ((i : Int) < 8) = true := decide_eq_true (by omega)
      have i1 : (i : Int) < 8 := by omega
      obtain ⟨p, hp⟩ : ∃ p, p = primesL.getD i 0 := ⟨_, rfl⟩
      have hpl : p < 4294967296 := by rw [hp]; exact primesL_lt i
      have hpc : ∀ w, Calls Try.prog 12 #[.int .i64 (i : Int)] w (Tells w (Is (.int .u32 (p : Int)))) := fun w => by
        have h := rprime_c i w
        rw [primeI_nat i hi8, ← hp] at h
        exact h
      have hrc : ∀ w, Calls Try.prog 15 #[.int .u32 (p : Int), .bool false] w (Tells w (Is (.int .u32 ((s0w i : Nat) : Int)))) := fun w => by
        have h := rroot_c p hpl false w
        unfold s0w
        rw [← hp]
        exact h
      obtain ⟨r, hr⟩ : ∃ r, r = s0w i := ⟨_, rfl⟩
      rw [← hr] at hrc
      have HP := Lib.hid hpc
      have HQ := Lib.hid hrc
      have HK := Lib.hid hk
      have HS := Lib.hid hs
      have HRR := Lib.hid hr
      clear hpc hrc hk hs hp hr
      go_wp2_with fail
      refine (HP.out wr).mono ?_
      rintro e w5 ⟨_, rfl, rfl, hg5⟩
      go_wp2_with fail
      refine (HQ.out w5).mono ?_
      rintro e w6 ⟨_, rfl, rfl, hg6⟩
      have HS6 := Lib.hid ((HS.out.grew hg5).grew hg6)
      have HK6 := Lib.hid ((HK.out.grew hg5).grew hg6)
      have hgg := Grew.trans (Grew.trans hg hg5) hg6
      have c1 := HS6.out.at_ i
      rw [cells_get _ _ (by rw [s0To_len]; omega)] at c1
      have c2 := HS6.out.fz i
      go_wp2_with fail
      go_roundw
      case rel =>
        refine ⟨i + 1, by go_num, by omega, HK6.out.far (by simp) _, ?_, Grew.setCell_new hgg (by simp; omega) _⟩
        have h := HS6.out.set i (.int .u32 (r : Int))
        rw [wcells_set, HRR.out, s0To_succ i hi8] at h
        rw [HRR.out]
        exact h
      case measure => simp [intOf]; omega
    · have d1 : decide ((i : Int) < 8) = false := decide_eq_false (by omega)
      obtain rfl : i = 8 := by omega
      rw [s0To_8] at hs
      have hsz := HSZ.out
      have HK := Lib.hid hk
      have HS := Lib.hid hs
      have HG := Lib.hid hg
      have hrp := rpad_c n wr
      obtain ⟨P, hP⟩ : ∃ P, P = strOfNums (padL n) := ⟨_, rfl⟩
      rw [← hP] at hrp
      obtain ⟨T, hT⟩ : ∃ T, T = l ++ padL n := ⟨_, rfl⟩
      obtain ⟨TB, hTB⟩ : ∃ TB, TB = strOfNums T := ⟨_, rfl⟩
      have hz : ¬ (9223372036854775807 < B.size + P.size) := by rw [HSZ.out, hP, str_size, padL_len]; have := HL.out; unfold zN; omega
      have hap : B ++ P = TB := by rw [HB.out, hP, hTB, hT, str_append]
      obtain ⟨m, hm⟩ : ∃ m, m = T.length := ⟨_, rfl⟩
      have hts : TB.size = m := by rw [hTB, str_size, hm]
      have hTf : T = fullL l := by rw [hT, HN.out]; rfl
      have hmb : m % 64 = 0 := by rw [hm, hTf]; exact fullL_len l
      have hml : m ≤ 1000000200 := by rw [hm, hT, List.length_append, padL_len]; have := HL.out; have := HN.out; unfold zN; omega
      have hTb : ∀ y ∈ T, 0 ≤ y ∧ y < 256 := by
        intro y hy
        rw [hT] at hy
        rcases List.mem_append.1 hy with h | h
        · exact HBB.out y h
        · exact padL_bytes n y h
      have HRP := Lib.hid hrp
      have HT := Lib.hid hT
      have HM := Lib.hid hm
      have HTF := Lib.hid hTf
      have HTS := Lib.hid hts
      have HTB := Lib.hid hTb
      have HTBe := Lib.hid hTB
      clear hk hs hg hP hT hTB hm hTf hts hTb hrp
      go_wp2_with fail
      refine HRP.out.mono ?_
      rintro e w2 ⟨_, rfl, rfl, hg2⟩
      have hk2 := HK.out.grew hg2
      have hs2 := HS.out.grew hg2
      have hgw2 := Grew.trans HG.out hg2
      clear hsz HK HS HG
      go_wp2_with fail
      try rw [show ((8 : Nat) : Int) = 8 from rfl]
      go_loopw [7] (fun iv wq => ∃ j ij : Nat, iv = .int .i64 (ij : Int) ∧ ij = 64 * j ∧ ij ≤ m ∧ Blk wq gk 45 (wcells kL) ∧ Blk wq (gk + 1) 40 (wcells (after kL s0L T j)) ∧ Grew w wq) (fun iv _ => m - (intOf iv).toNat)
      case atStart => exact ⟨0, 0, rfl, rfl, by omega, hk2, hs2, hgw2⟩
      case round =>
        obtain ⟨j, ij, rfl, hij, him, hk, hs, hg⟩ := hrel
        clear hk2 hs2 hgw2
        have hts := HTS.out
        by_cases hlt : ij < m
        · have d1 : decide ((ij : Int) < (m : Int)) = true := decide_eq_true (by omega)
          obtain ⟨ij2, hij2⟩ : ∃ q, q = ij + 64 := ⟨_, rfl⟩
          have e1 : IntKind.i64.wrap ((ij : Int) + 64) = (ij2 : Int) := by rw [IntWalk.i64_in _ (by omega)]; omega
          have hle2 : ij2 ≤ m := by omega
          have hbk : (T.drop ij).take (ij2 - ij) = blkL T j := by rw [hij2, Nat.add_sub_cancel_left, hij]; rfl
          have hb64 : (blkL T j).length = 64 := by
            unfold blkL
            rw [List.length_take, List.length_drop, ← HM.out]; omega
          have hsl7 : ∀ w', Sem.run Try.prog (Instr.slice 9 (.string TB) (some (.int .i64 (ij : Int))) (some (.int .i64 (ij2 : Int))) none) w' = .ok (.string (strOfNums (blkL T j))) w' := fun w' => by
            rw [run_slice_string w' _ TB .i64 .i64 _ _ (by rfl) (by omega) (by omega) (by omega), HTBe.out, str_extract, Int.toNat_natCast, Int.toNat_natCast, hbk]
          obtain ⟨S, hS⟩ : ∃ S, S = after kL s0L T j := ⟨_, rfl⟩
          have hsl : S.length = 8 := by rw [hS]; exact after_len s0L_len _
          have hsw : words S := by rw [hS]; exact after_words s0L_words _
          have hnext : after kL s0L T (j + 1) = mixL kL S (blkL T j) := by rw [hS]; rfl
          have hbb : ∀ y ∈ blkL T j, 0 ≤ y ∧ y < 256 := fun y hy => HTB.out y (List.mem_of_mem_drop (List.mem_of_mem_take hy))
          rw [← hS] at hs
          have HK := Lib.hid hk
          have HS := Lib.hid hs
          have HG := Lib.hid hg
          have HSl := Lib.hid hsl
          have HSw := Lib.hid hsw
          have HNext := Lib.hid hnext
          have HBl := Lib.hid hbb
          have HB64 := Lib.hid hb64
          have HIJ := Lib.hid hij
          have HIJ2 := Lib.hid hij2
          clear hk hs hg hsl hsw hnext hbb hb64 hij hij2 hbk hS
          go_wp2_with fail
          clear hts
          apply region_grew [Is _, Is _, Is _, Is _, Is _, Is _, Is _] [([(3, none)], none), ([(4, none)], none), ([(6, none)], none), ([(7, none)], none), ([(7, none)], none), ([(35, some 4)], none), ([(33, some 2), (34, some 3), (36, some 5)], none)] [(31, 0), (32, 1), (33, 2), (34, 3), (35, 4), (36, 5), (37, 6)] rfl (by kernel_rfl) (by kernel_rfl) (show Stable Grew _ from ⟨Is.stable _, Is.stable _, Is.stable _, Is.stable _, Is.stable _, Is.stable _, Is.stable _, trivial⟩)
          · show OpsHold _ _ _ _ _ _ _ _ _
            refine ⟨fun a_ wx hR hD K hK => ?_, ?_⟩
            · have hG : Grew wr wx := (Grew.drew _).trans hR
              simp [Deps, Dep, at_, Is] at hD
              exact wp_load_mid 45 (.tmp 3) rfl gk 0 (eval_tmp hD) (wcells kL) _ (Blk.range0 (HK.out.grew hG)) Try.underlying45 (by rfl) (by rw [wcells_len, kL_len]; kernel_rfl) (hK _ _ (Grew.refl _) rfl)
            refine ⟨fun a_ wx hR hD K hK => ?_, ?_⟩
            · have hG : Grew wr wx := (Grew.drew _).trans hR
              simp [Deps, Dep, at_, Is] at hD
              exact wp_load_mid 40 (.tmp 4) rfl (gk + 1) 0 (eval_tmp hD) (wcells S) _ (Blk.range0 (HS.out.grew hG)) Try.underlying40 (by rfl) (by rw [wcells_len, HSl.out]; kernel_rfl) (hK _ _ (Grew.refl _) rfl)
            refine ⟨fun a_ wx hR hD K hK => ?_, ?_⟩
            · have hG : Grew wr wx := (Grew.drew _).trans hR
              simp [Deps, Dep, at_, Is] at hD
              go_simp
              exact hK _ _ (Grew.refl _) rfl
            refine ⟨fun a_ wx hR hD K hK => ?_, ?_⟩
            · have hG : Grew wr wx := (Grew.drew _).trans hR
              simp [Deps, Dep, at_, Is] at hD
              go_simp
              exact hK _ _ (Grew.refl _) rfl
            refine ⟨fun a_ wx hR hD K hK => ?_, ?_⟩
            · have hG : Grew wr wx := (Grew.drew _).trans hR
              simp [Deps, Dep, at_, Is] at hD
              go_simp
              exact hK _ _ (Grew.refl _) rfl
            refine ⟨fun a_ wx hR hD K hK => ?_, ?_⟩
            · have hG : Grew wr wx := (Grew.drew _).trans hR
              simp [Deps, Dep, at_, Is] at hD
              go_simp
              exact hK _ _ (Grew.refl _) rfl
            refine ⟨fun a_ wx hR hD K hK => ?_, ?_⟩
            · have hG : Grew wr wx := (Grew.drew _).trans hR
              simp [Deps, Dep, at_, Is] at hD
              obtain ⟨hd0, hd1, hd2⟩ := hD
              go_simp
              exact hK _ _ (Grew.refl _) rfl
            trivial
          · show EndHold _ _ _ _ _ _ _
            refine end_all (xs := [_, _, _, _, _, _, _]) ⟨rfl, rfl, rfl, rfl, rfl, rfl, rfl, trivial⟩ ?_
            rintro w5 hR1 -
            refine ⟨?_⟩
            have hG_w5 : Grew wr w5 := (Grew.drew _).trans hR1
            clear hR1
            simp only [Act.put, List.setIfInBounds_toArray, List.set_cons_succ, List.set_cons_zero, dropN, putEach]
            go_wp2_with fail
            refine (rmix_c w5 kL S (blkL T j) kL_len kL_words HSl.out HSw.out HB64.out HBl.out).mono ?_
            rintro e w6 ⟨_, rfl, rfl, hg6⟩
            have hgg := Grew.trans (Grew.trans HG.out hG_w5) hg6
            have HS5 := Lib.hid ((HS.out.grew hG_w5).grew hg6)
            have HK5 := Lib.hid ((HK.out.grew hG_w5).grew hg6)
            go_wp2_with (refine wpList_store_blk (c := wcells (mixL kL S (blkL T j))) HS5.out (by rfl) 40 (.tmp 4) (.tmp 38) (by rfl) (by rfl) (by rfl) (by rw [wcells_len, mixL_len]; kernel_rfl) (by rw [wcells_len, wcells_len, mixL_len, HSl.out]) (wcells_one _) ?_)
            go_roundw
            case rel =>
              refine ⟨j + 1, ij2, by go_num, by rw [HIJ2.out, HIJ.out]; omega, hle2, HK5.out.farRow (by omega) _, ?_, Grew.setRow hgg (by omega) _⟩
              rw [HNext.out]
              exact HS5.out.setRow _
            case measure => have := HIJ2.out; simp [intOf]; omega
        · have d1 : decide ((ij : Int) < (m : Int)) = false := decide_eq_false (by omega)
          obtain ⟨SF, hSF⟩ : ∃ SF, SF = after kL s0L T j := ⟨_, rfl⟩
          have hsl : SF.length = 8 := by rw [hSF]; exact after_len s0L_len _
          have HSw := Lib.hid (show words SF from by rw [hSF]; exact after_words s0L_words _)
          have hout : shaL l = outL SF := by
            unfold shaL
            rw [hSF, ← HTF.out, ← HM.out]
            congr 2
            omega
          rw [← hSF] at hs
          have HSl := Lib.hid hsl
          have HOut := Lib.hid hout
          have he0 : (⟨#[]⟩ : ByteArray) = strOfNums (outL (SF.take 0)) := rfl
          clear hSF hsl hout hij hk
          go_wp2_with fail
          clear hts
          go_loopw [8, 9] (fun v8 iv wq => ∃ (i : Nat) (O : ByteArray), v8 = .string O ∧ O = strOfNums (outL (SF.take i)) ∧ iv = .int .i64 (i : Int) ∧ i ≤ 8 ∧ Blk wq (gk + 1) 40 (wcells SF) ∧ Grew w wq) (fun _ iv _ => 8 - (intOf iv).toNat)
          case atStart => exact ⟨0, _, rfl, he0, rfl, by omega, hs, hg⟩
          case round =>
            obtain ⟨i, O, rfl, hO, rfl, hi, hs2, hg2⟩ := hrel
            clear hs hg he0
            by_cases hi8 : i < 8
            · have d1 : decide ((i : Int) < 8) = true := decide_eq_true (by omega)
              have i1 : (i : Int) < 8 := by omega
              have c1 := hs2.at_ i
              rw [cells_get SF i (by rw [HSl.out]; omega)] at c1
              have hsucc : outL (SF.take (i + 1)) = outL (SF.take i) ++ outW (SF.getD i 0) := outL_succ SF i (by rw [HSl.out]; omega)
              obtain ⟨y, hy⟩ : ∃ y, y = SF.getD i 0 := ⟨_, rfl⟩
              have hyl : y < 4294967296 := by rw [hy]; exact words_get (HSw.out) _
              rw [← hy] at c1 hsucc
              obtain ⟨b0, hb0⟩ : ∃ b, b = y / 16777216 % 256 := ⟨_, rfl⟩
              obtain ⟨b1, hb1⟩ : ∃ b, b = y / 65536 % 256 := ⟨_, rfl⟩
              obtain ⟨b2, hb2⟩ : ∃ b, b = y / 256 % 256 := ⟨_, rfl⟩
              obtain ⟨b3, hb3⟩ : ∃ b, b = y % 256 := ⟨_, rfl⟩
              obtain ⟨q0, hq0⟩ : ∃ q, q = y / 16777216 := ⟨_, rfl⟩
              obtain ⟨q1, hq1⟩ : ∃ q, q = y / 65536 := ⟨_, rfl⟩
              obtain ⟨q2, hq2⟩ : ∃ q, q = y / 256 := ⟨_, rfl⟩
              have k0 : IntKind.u32.wrap ((y : Int) / 16777216) = (q0 : Int) := by rw [IntWalk.u32_in _ (by omega)]; omega
              have k1 : IntKind.u32.wrap ((y : Int) / 65536) = (q1 : Int) := by rw [IntWalk.u32_in _ (by omega)]; omega
              have k2 : IntKind.u32.wrap ((y : Int) / 256) = (q2 : Int) := by rw [IntWalk.u32_in _ (by omega)]; omega
              have t1 : (q1 : Int).tmod 256 = (b1 : Int) := by rw [show (256 : Int) = ((256 : Nat) : Int) from rfl, tmod_nat, hb1, hq1]
              have t2 : (q2 : Int).tmod 256 = (b2 : Int) := by rw [show (256 : Int) = ((256 : Nat) : Int) from rfl, tmod_nat, hb2, hq2]
              have t3 : (y : Int).tmod 256 = (b3 : Int) := by rw [show (256 : Int) = ((256 : Nat) : Int) from rfl, tmod_nat, hb3]
              have g0 : IntKind.u8.wrap (q0 : Int) = (b0 : Int) := by rw [IntKind.wrap_u8]; omega
              have g1 : IntKind.u8.wrap (b1 : Int) = (b1 : Int) := by rw [IntKind.wrap_u8]; omega
              have g2 : IntKind.u8.wrap (b2 : Int) = (b2 : Int) := by rw [IntKind.wrap_u8]; omega
              have g3 : IntKind.u8.wrap (b3 : Int) = (b3 : Int) := by rw [IntKind.wrap_u8]; omega
              have hw4 : outW y = [(b0 : Int), (b1 : Int), (b2 : Int), (b3 : Int)] := by rw [hb0, hb1, hb2, hb3]; rfl
              rw [hw4] at hsucc
              obtain ⟨Q, hQ⟩ : ∃ Q, Q = strOfNums [(b0 : Int), (b1 : Int), (b2 : Int), (b3 : Int)] := ⟨_, rfl⟩
              obtain ⟨O2, hO2⟩ : ∃ O2, O2 = strOfNums (outL (SF.take (i + 1))) := ⟨_, rfl⟩
              have hadd : O ++ Q = O2 := by rw [hO, hQ, hO2, hsucc, str_append]
              have hz : ¬ (9223372036854775807 < O.size + Q.size) := by
                rw [hO, hQ, str_size, str_size, outL_len, List.length_take]; simp; omega
              have hst : ∀ w' A' c', Kd.C (Kd.int .u8) w' A' 4 [(b0 : Int), (b1 : Int), (b2 : Int), (b3 : Int)] → (convert 28 9 (.slice A' 4 c')).run Try.prog w' = .ok (.string Q) w' := fun w' A' c' h => by
                rw [hQ]; exact Kd.C_string (P := Try.prog) Try.underlying28 Try.underlying5 Try.underlying9 h
              have C1 := Lib.hid c1
              have HO2 := Lib.hid hO2
              have HST := Lib.hid hst
              have HS2 := Lib.hid hs2
              have HG2 := Lib.hid hg2
              clear c1 hO2 hst hs2 hg2 hsucc hw4 hb0 hb1 hb2 hb3 hy hO hQ hq0 hq1 hq2
              go_wp2_with fail
              apply region_grew [Is _, Is _, Is _, Is _, Is _, Is _, Is _, Is _, Is _, Is _, Is _, Is _, Is _, Is _, Is _, Is _, Is _, Is _, Is _, Is _, Is _, Is _, Is _, RowV 4 [(b0 : Int), (b1 : Int), (b2 : Int), (b3 : Int)], Is _] [([(8, none)], none), ([(9, none)], none), ([(4, none), (44, some 1)], none), ([(45, some 2)], none), ([(46, some 3)], none), ([(47, some 4)], none), ([(9, none)], none), ([(4, none), (49, some 6)], none), ([(50, some 7)], none), ([(51, some 8)], none), ([(52, some 9)], none), ([(53, some 10)], none), ([(9, none)], none), ([(4, none), (55, some 12)], none), ([(56, some 13)], none), ([(57, some 14)], none), ([(58, some 15)], none), ([(59, some 16)], none), ([(9, none)], none), ([(4, none), (61, some 18)], none), ([(62, some 19)], none), ([(63, some 20)], none), ([(64, some 21)], none), ([(48, some 5), (54, some 11), (60, some 17), (65, some 22)], none), ([(66, some 23)], none)] [(66, 23), (43, 0), (44, 1), (45, 2), (46, 3), (47, 4), (48, 5), (49, 6), (50, 7), (51, 8), (52, 9), (53, 10), (54, 11), (55, 12), (56, 13), (57, 14), (58, 15), (59, 16), (60, 17), (61, 18), (62, 19), (63, 20), (64, 21), (65, 22), (67, 24)] rfl (by kernel_rfl) (by kernel_rfl) (show Stable Grew _ from ⟨Is.stable _, Is.stable _, Is.stable _, Is.stable _, Is.stable _, Is.stable _, Is.stable _, Is.stable _, Is.stable _, Is.stable _, Is.stable _, Is.stable _, Is.stable _, Is.stable _, Is.stable _, Is.stable _, Is.stable _, Is.stable _, Is.stable _, Is.stable _, Is.stable _, Is.stable _, Is.stable _, RowV.stable _ _, Is.stable _, trivial⟩)
              · show OpsHold _ _ _ _ _ _ _ _ _
                refine ⟨fun a_ wx hR hD K hK => ?_, ?_⟩
                · have hG : Grew wr wx := (Grew.drew _).trans hR
                  simp [Deps, Dep, at_, Is] at hD
                  go_simp
                  exact hK _ _ (Grew.refl _) rfl
                refine ⟨fun a_ wx hR hD K hK => ?_, ?_⟩
                · have hG : Grew wr wx := (Grew.drew _).trans hR
                  simp [Deps, Dep, at_, Is] at hD
                  go_simp
                  exact hK _ _ (Grew.refl _) rfl
                refine ⟨fun a_ wx hR hD K hK => ?_, ?_⟩
                · have hG : Grew wr wx := (Grew.drew _).trans hR
                  simp [Deps, Dep, at_, Is] at hD
                  obtain ⟨hd0, hd1⟩ := hD
                  go_simp
                  exact hK _ _ (Grew.refl _) rfl
                refine ⟨fun a_ wx hR hD K hK => ?_, ?_⟩
                · have hG : Grew wr wx := (Grew.drew _).trans hR
                  simp [Deps, Dep, at_, Is] at hD
                  have e_ := pw_cell_below hG C1.out
                  go_simp
                  exact hK _ _ (Grew.refl _) rfl
                refine ⟨fun a_ wx hR hD K hK => ?_, ?_⟩
                · have hG : Grew wr wx := (Grew.drew _).trans hR
                  simp [Deps, Dep, at_, Is] at hD
                  go_simp
                  exact hK _ _ (Grew.refl _) rfl
                refine ⟨fun a_ wx hR hD K hK => ?_, ?_⟩
                · have hG : Grew wr wx := (Grew.drew _).trans hR
                  simp [Deps, Dep, at_, Is] at hD
                  go_simp
                  exact hK _ _ (Grew.refl _) rfl
                refine ⟨fun a_ wx hR hD K hK => ?_, ?_⟩
                · have hG : Grew wr wx := (Grew.drew _).trans hR
                  simp [Deps, Dep, at_, Is] at hD
                  go_simp
                  exact hK _ _ (Grew.refl _) rfl
                refine ⟨fun a_ wx hR hD K hK => ?_, ?_⟩
                · have hG : Grew wr wx := (Grew.drew _).trans hR
                  simp [Deps, Dep, at_, Is] at hD
                  obtain ⟨hd0, hd1⟩ := hD
                  go_simp
                  exact hK _ _ (Grew.refl _) rfl
                refine ⟨fun a_ wx hR hD K hK => ?_, ?_⟩
                · have hG : Grew wr wx := (Grew.drew _).trans hR
                  simp [Deps, Dep, at_, Is] at hD
                  have e_ := pw_cell_below hG C1.out
                  go_simp
                  exact hK _ _ (Grew.refl _) rfl
                refine ⟨fun a_ wx hR hD K hK => ?_, ?_⟩
                · have hG : Grew wr wx := (Grew.drew _).trans hR
                  simp [Deps, Dep, at_, Is] at hD
                  go_simp
                  exact hK _ _ (Grew.refl _) rfl
                refine ⟨fun a_ wx hR hD K hK => ?_, ?_⟩
                · have hG : Grew wr wx := (Grew.drew _).trans hR
                  simp [Deps, Dep, at_, Is] at hD
                  go_simp
                  exact hK _ _ (Grew.refl _) rfl
                refine ⟨fun a_ wx hR hD K hK => ?_, ?_⟩
                · have hG : Grew wr wx := (Grew.drew _).trans hR
                  simp [Deps, Dep, at_, Is] at hD
                  go_simp
                  exact hK _ _ (Grew.refl _) rfl
                refine ⟨fun a_ wx hR hD K hK => ?_, ?_⟩
                · have hG : Grew wr wx := (Grew.drew _).trans hR
                  simp [Deps, Dep, at_, Is] at hD
                  go_simp
                  exact hK _ _ (Grew.refl _) rfl
                refine ⟨fun a_ wx hR hD K hK => ?_, ?_⟩
                · have hG : Grew wr wx := (Grew.drew _).trans hR
                  simp [Deps, Dep, at_, Is] at hD
                  obtain ⟨hd0, hd1⟩ := hD
                  go_simp
                  exact hK _ _ (Grew.refl _) rfl
                refine ⟨fun a_ wx hR hD K hK => ?_, ?_⟩
                · have hG : Grew wr wx := (Grew.drew _).trans hR
                  simp [Deps, Dep, at_, Is] at hD
                  have e_ := pw_cell_below hG C1.out
                  go_simp
                  exact hK _ _ (Grew.refl _) rfl
                refine ⟨fun a_ wx hR hD K hK => ?_, ?_⟩
                · have hG : Grew wr wx := (Grew.drew _).trans hR
                  simp [Deps, Dep, at_, Is] at hD
                  go_simp
                  exact hK _ _ (Grew.refl _) rfl
                refine ⟨fun a_ wx hR hD K hK => ?_, ?_⟩
                · have hG : Grew wr wx := (Grew.drew _).trans hR
                  simp [Deps, Dep, at_, Is] at hD
                  go_simp
                  exact hK _ _ (Grew.refl _) rfl
                refine ⟨fun a_ wx hR hD K hK => ?_, ?_⟩
                · have hG : Grew wr wx := (Grew.drew _).trans hR
                  simp [Deps, Dep, at_, Is] at hD
                  go_simp
                  exact hK _ _ (Grew.refl _) rfl
                refine ⟨fun a_ wx hR hD K hK => ?_, ?_⟩
                · have hG : Grew wr wx := (Grew.drew _).trans hR
                  simp [Deps, Dep, at_, Is] at hD
                  go_simp
                  exact hK _ _ (Grew.refl _) rfl
                refine ⟨fun a_ wx hR hD K hK => ?_, ?_⟩
                · have hG : Grew wr wx := (Grew.drew _).trans hR
                  simp [Deps, Dep, at_, Is] at hD
                  obtain ⟨hd0, hd1⟩ := hD
                  go_simp
                  exact hK _ _ (Grew.refl _) rfl
                refine ⟨fun a_ wx hR hD K hK => ?_, ?_⟩
                · have hG : Grew wr wx := (Grew.drew _).trans hR
                  simp [Deps, Dep, at_, Is] at hD
                  have e_ := pw_cell_below hG C1.out
                  go_simp
                  exact hK _ _ (Grew.refl _) rfl
                refine ⟨fun a_ wx hR hD K hK => ?_, ?_⟩
                · have hG : Grew wr wx := (Grew.drew _).trans hR
                  simp [Deps, Dep, at_, Is] at hD
                  go_simp
                  exact hK _ _ (Grew.refl _) rfl
                refine ⟨fun a_ wx hR hD K hK => ?_, ?_⟩
                · have hG : Grew wr wx := (Grew.drew _).trans hR
                  simp [Deps, Dep, at_, Is] at hD
                  go_simp
                  exact hK _ _ (Grew.refl _) rfl
                refine ⟨fun a_ wx hR hD K hK => ?_, ?_⟩
                · have hG : Grew wr wx := (Grew.drew _).trans hR
                  simp [Deps, Dep, at_, Is] at hD
                  obtain ⟨hd0, hd1, hd2, hd3⟩ := hD
                  go_simp
                  exact hK _ _ (Grew.alloc _ _) ⟨_, _, rfl, (Blk.new wx 5 (nums .u8 [(b0 : Int), (b1 : Int), (b2 : Int), (b3 : Int)])).C (by simp)⟩
                refine ⟨fun a_ wx hR hD K hK => ?_, ?_⟩
                · have hG : Grew wr wx := (Grew.drew _).trans hR
                  simp [Deps, Dep, at_, Is] at hD
                  obtain ⟨A', c', hv', hC'⟩ := hD
                  have hcv := HST.out _ _ c' hC'
                  go_simp
                  exact hK _ _ (Grew.refl _) rfl
                trivial
              · show EndHold _ _ _ _ _ _ _
                intro v66
                refine end_all (xs := [_, _, _, _, _, _, _, _, _, _, _, _, _, _, _, _, _, _, _, _, _, _, _, _]) ⟨rfl, rfl, rfl, rfl, rfl, rfl, rfl, rfl, rfl, rfl, rfl, rfl, rfl, rfl, rfl, rfl, rfl, rfl, rfl, rfl, rfl, rfl, rfl, rfl, trivial⟩ ?_
                rintro w5 hR1 ⟨-, hRow⟩
                refine ⟨?_⟩
                have hG_w5 : Grew wr w5 := (Grew.drew _).trans hR1
                clear hR1
                simp only [Act.put, List.setIfInBounds_toArray, List.set_cons_succ, List.set_cons_zero, dropN, putEach]
                go_wp2_with fail
                go_roundw
                case rel => exact ⟨i + 1, _, rfl, HO2.out, by go_num, by omega, HS2.out.grew hG_w5, Grew.trans HG2.out hG_w5⟩
                case measure => simp [intOf]; omega
            · have d1 : decide ((i : Int) < 8) = false := decide_eq_false (by omega)
              obtain rfl : i = 8 := by omega
              rw [List.take_of_length_le (by rw [HSl.out]; omega), ← HOut.out] at hO
              have HO := Lib.hid hO
              clear hO
              go_wp2_with fail
              go_ret
              refine ⟨_, rfl, ?_, hg2⟩
              rw [← HO.out]
              rfl
end Go.Proofs.Ytphkohdfdkmpcaa.F

-- ShaJ
namespace Go.Proofs.Ytphkohdfdkmpcaa.F
open Go Go.Lib Go.RowKit Go.Proofs.YtphkohdfdkmpcaaW.PrintWords Go.Proofs.YtphkohdfdkmpcaaW.PrintLast Go.Proofs.YtphkohdfdkmpcaaW.PrintMore Go.Proofs.YtphkohdfdkmpcaaR
attribute [local go_sem] max2_int min2_int max_two min_two
set_option linter.unusedSimpArgs false
set_option linter.unusedVariables false
set_option maxRecDepth 100000
theorem lives_c (w : World) : Calls Try.prog 13 #[] w (Tells w (Is (.bool true))) := by
  have hs := sum1_c w none 0 0 [] (Kd.C_of_reads (d := (0 : Int)) (h1 := fun _ => rfl) (ReadsInt.nil w .u8)) rfl (Nat.le_refl _) (by omega) (by simp)
  rw [sha_nil] at hs
  have hr1 := fun w => root_c 2 (by omega) false w
  have hr2 := fun w => root_c 2 (by omega) true w
  simp only [root2_sq, root2_cu] at hr1 hr2
  have HS := Lib.hid hs
  have H1 := Lib.hid hr1
  have H2 := Lib.hid hr2
  clear hs hr1 hr2
  go_enter Try.func13, Try.ntmps13
  go_wp2_with fail
  refine HS.out.mono ?_
  rintro e w1 ⟨_, rfl, rfl, hg1⟩
  go_wp2_with fail
  refine (H1.out w1).mono ?_
  rintro e w2 ⟨_, rfl, rfl, hg2⟩
  go_wp2_with fail
  refine (H2.out w2).mono ?_
  rintro e w3 ⟨_, rfl, rfl, hg3⟩
  go_wp2_with fail
  have hb : ((strOfNums [227, 176, 196, 66, 152, 252, 28, 20, 154, 251, 244, 200, 153, 111, 185, 36, 39, 174, 65, 228, 100, 155, 147, 76, 164, 149, 153, 27, 120, 82, 184, 85]).extract 0 4).toList == [227, 176, 196, 66] := by
    rw [str_extract, toList_data]; rfl
  go_ret
  refine ⟨_, rfl, ?_, Grew.trans (Grew.trans hg1 hg2) hg3⟩
  show Value.bool _ = Value.bool true
  rw [hb]
end Go.Proofs.Ytphkohdfdkmpcaa.F

-- Open
namespace Go.Proofs.YtphkohdfdkmpcaaO
set_option linter.unusedSimpArgs false
open Go Go.RowKit Go.ChangeShapes Go.WideShapes Go.ChangeAt Go.Proofs.YtphkohdfdkmpcaaW.PrintWords
/-- cells of type t that can be read as data are some x of kind d -/
def Opens {α : Type} (P : Program) (t : TypeId) (d : Kd α) (ok : α → Prop) : Prop :=
  ∀ (H : Type) (enc : TypeId × Value → H) (W : World) (sp : Nat → Bool) (held : Bool) (fuel : Nat) (cs : List Value) (y : DataW H × List MemPlace), DataW.trod enc P W 0 sp held fuel t cs = some y → ∃ x, d.K W x cs ∧ ok x
section
variable {P : Program} {α : Type}
theorem opens_int {t : TypeId} {k : IntKind} (hu : P.underlying t = some (.int k)) : Opens P t (Kd.int k) (fun x => (Lit.int k x).wf = true) := by
  intro H enc W sp held fuel cs y h
  cases fuel with
  | zero => simp [DataW.trod] at h
  | succ n =>
    have key : ∃ n', cs = [.int k n'] ∧ (Lit.int k n').wf = true := by
      simp only [DataW.trod, hu] at h
      split at h <;> simp_all
    obtain ⟨x, rfl, hx⟩ := key
    exact ⟨x, rfl, hx⟩
theorem opens_bool {t : TypeId} (hu : P.underlying t = some .bool) : Opens P t Kd.bool (fun _ => True) := by
  intro H enc W sp held fuel cs y h
  cases fuel with
  | zero => simp [DataW.trod] at h
  | succ n =>
    have key : ∃ b, cs = [.bool b] := by
      simp only [DataW.trod, hu] at h
      split at h <;> simp_all
    obtain ⟨x, rfl⟩ := key
    exact ⟨x, rfl, trivial⟩
theorem opens_string {t : TypeId} (hu : P.underlying t = some .string) : Opens P t Kd.string (fun s => s.size ≤ maxLen) := by
  intro H enc W sp held fuel cs y h
  cases fuel with
  | zero => simp [DataW.trod] at h
  | succ n =>
    simp only [DataW.trod, hu] at h
    split at h <;> simp_all
    exact ⟨_, rfl, h.1⟩
theorem mapM_get {β γ : Type} {f : β → Option γ} : ∀ {l : List β} {ys : List γ}, l.mapM f = some ys → ys.length = l.length ∧ ∀ (i : Nat) (x : β), l[i]? = some x → ∃ y, f x = some y
  | [], ys, h => by simp at h; subst h; simp
  | a :: l, ys, h => by
    simp only [List.mapM_cons] at h
    obtain ⟨b, hb, h⟩ := Option.bind_eq_some_iff.1 h
    obtain ⟨bs, hbs, h⟩ := Option.bind_eq_some_iff.1 h
    simp at h
    subst h
    have ih := mapM_get hbs
    refine ⟨by simp [ih.1], fun i x hx => ?_⟩
    cases i with
    | zero => simp at hx; subst hx; exact ⟨b, hb⟩
    | succ i => simp at hx; exact ih.2 i x hx
theorem choose_list {ok : α → Prop} {Q : Nat → α → Prop} : ∀ n : Nat, (∀ i, i < n → ∃ x, Q i x ∧ ok x) → ∃ xs : List α, xs.length = n ∧ (∀ (i : Nat) (x : α), xs[i]? = some x → Q i x) ∧ ∀ x ∈ xs, ok x
  | 0, _ => ⟨[], rfl, by simp, by simp⟩
  | n + 1, h => by
    obtain ⟨xs, h1, h2, h3⟩ := choose_list n (fun i hi => h i (by omega))
    obtain ⟨x, hx, hk⟩ := h n (by omega)
    refine ⟨xs ++ [x], by simp [h1], fun i y hy => ?_, fun y hy => ?_⟩
    · rcases Nat.lt_or_ge i n with hlt | hge
      · rw [List.getElem?_append_left (by omega)] at hy; exact h2 i y hy
      · rw [List.getElem?_append_right (by omega)] at hy
        have : i = n := by
          rcases Nat.lt_or_ge n i with h' | h'
          · rw [List.getElem?_eq_none (by simp; omega)] at hy; cases hy
          · omega
        subst this
        simp [h1] at hy
        subst hy; exact hx
    · rcases List.mem_append.1 hy with hy | hy
      · exact h3 y hy
      · simp at hy; subst hy; exact hk
theorem cells_get {W : World} {a : Addr} {n : Nat} {cs : List Value} (h : W.cells? 0 a n = some cs) : cs.length = n ∧ ∀ (i : Nat) (u : Value), cs[i]? = some u → W.cell? (a.add i) = some u := by
  unfold World.cells? at h
  rw [if_pos (Nat.zero_le _)] at h
  have h1 := mapM_get h
  refine ⟨by simpa using h1.1, fun i u hu => ?_⟩
  have hi : i < n := by
    have := (List.getElem?_eq_some_iff.1 hu).1
    rw [h1.1] at this; simpa using this
  obtain ⟨y, hy⟩ := h1.2 i i (by simp [hi])
  have key : ∀ (l : List Nat) (ys : List Value), l.mapM (fun i => W.cell? (a.add i)) = some ys → ∀ (j : Nat), ys[j]? = (l[j]?).bind fun i => W.cell? (a.add i) := by
    intro l
    induction l with
    | nil => intro ys h j; simp at h; subst h; simp
    | cons b l ih =>
      intro ys h j
      simp only [List.mapM_cons] at h
      obtain ⟨c, hc, h⟩ := Option.bind_eq_some_iff.1 h
      obtain ⟨cs', hcs, h⟩ := Option.bind_eq_some_iff.1 h
      simp at h; subst h
      cases j with
      | zero => simp [hc]
      | succ j => simpa using ih cs' hcs j
  have := key _ _ h i
  rw [hu] at this
  simp [hi] at this
  exact this.symm
theorem opens_slice {t e : TypeId} {d : Kd α} {ok : α → Prop} (hu : P.underlying t = some (.slice e)) (he : Opens P e d ok) (hc : P.cellsOf e = d.sz) : Opens P t (Kd.slice e d) (fun xs => ∀ x ∈ xs, ok x) := by
  intro H enc W sp held fuel cs y h
  cases fuel with
  | zero => simp [DataW.trod] at h
  | succ n =>
    have key : cs = [.slice none 0 0] ∨ ∃ a len cap, cs = [.slice (some a) len cap] ∧ len ≤ cap ∧ cap ≤ maxLen ∧ ∃ elems, (List.range len).mapM (fun i => (W.cells? 0 (a.add (i * P.cellsOf e)) (P.cellsOf e)).bind (DataW.trod enc P W 0 sp held n e)) = some elems := by
      simp only [DataW.trod, hu] at h
      split at h <;> try (simp_all; done)
      rename_i e' a len cap heq
      simp only [Option.some.injEq, TypeDesc.slice.injEq] at heq
      subst heq
      split at h
      · rename_i hb
        obtain ⟨elems, he1, _⟩ := Option.bind_eq_some_iff.1 h
        exact .inr ⟨a, len, cap, rfl, hb.2.1, hb.2.2, elems, he1⟩
      · cases h
    rcases key with rfl | ⟨a, len, cap, rfl, h1, h2, elems, he1⟩
    · exact ⟨[], ⟨none, 0, rfl, by simp, by simp [Kd.C, ReadsRow]⟩, by simp⟩
    · rw [hc] at he1
      have hm := mapM_get he1
      obtain ⟨xs, x1, x2, x3⟩ := choose_list (ok := ok) (Q := fun i x => ∃ c, W.cells? 0 (a.add (i * d.sz)) d.sz = some c ∧ d.K W x c) len (fun i hi => by
        obtain ⟨z, hz⟩ := hm.2 i i (by simp [hi])
        obtain ⟨c, hc1, hc2⟩ := Option.bind_eq_some_iff.1 hz
        obtain ⟨x, hx, hk⟩ := he H enc W sp held n c z hc2
        exact ⟨x, ⟨c, hc1, hx⟩, hk⟩)
      refine ⟨xs, ⟨some a, cap, by rw [x1], by omega, ?_⟩, x3⟩
      refine ⟨rfl, by have : maxLen = 9223372036854775807 := rfl; omega, fun _ => ⟨a, rfl, fun j p hp => ?_⟩⟩
      obtain ⟨c, hc1, hk⟩ := x2 j p hp
      have hg := cells_get hc1
      refine ⟨c, hg.1, hk, fun i u hiu => ?_⟩
      have := hg.2 i u hiu
      rw [← this]
      congr 1
      unfold Addr.add
      by_cases z1 : j * d.sz = 0
      · rw [if_pos z1]
        by_cases z2 : i = 0
        · simp [z1, z2]
        · rw [if_neg (by omega), if_neg z2]; simp [z1]
      · rw [if_neg z1, if_neg (by omega)]
        by_cases z2 : i = 0
        · simp [z2]
        · rw [if_neg z2]; simp [Nat.add_assoc]
theorem opens_array {t e n : Nat} {d : Kd α} {ok : α → Prop} (hs : 0 < d.sz) (hu : P.underlying t = some (.array n e)) (he : Opens P e d ok) (hc : P.cellsOf e = d.sz) (ht : P.cellsOf t = n * d.sz) : Opens P t (Kd.arr n d hs) (fun xs => ∀ x ∈ xs, ok x) := by
  intro H enc W sp held fuel cs y h
  cases fuel with
  | zero => simp [DataW.trod] at h
  | succ m =>
    simp only [DataW.trod, hu] at h
    split at h
    · rename_i hl
      obtain ⟨ys, hy, _⟩ := Option.map_eq_some_iff.1 h
      have hm := mapM_get hy
      obtain ⟨xs, x1, x2, x3⟩ := choose_list (ok := ok) (Q := fun i x => d.K W x ((cs.drop (i * d.sz)).take d.sz)) n (fun i hi => by
        obtain ⟨z, hz⟩ := hm.2 i i (by simp [hi])
        rw [hc] at hz
        exact he H enc W sp held m _ z hz)
      exact ⟨xs, ⟨x1, by rw [x1, hl, ht], x2⟩, x3⟩
    · cases h
/-- an argument of a kind -/
theorem opens_arg {t : TypeId} {d : Kd α} {ok : α → Prop} (ho : Opens P t d ok) {H : Type} {enc : TypeId × Value → H} {W : World} {sp : Nat → Bool} {held : Bool} {v : Value} {y : DataW H} {ps : List MemPlace} (h : DataW.Trod enc P W 0 sp held t v y ps) : ∃ x, d.K W x v.cells.toList ∧ ok x := by
  obtain ⟨fuel, hf⟩ := h
  exact ho H enc W sp held fuel _ _ hf
theorem okWide_array {t n e : Nat} {r : Reach} {b0 : Nat} {v : Value} {W : World} (hu : P.underlying t = some (.array n e)) (h : Value.okWide P W r b0 t v) : ∃ cs, v = .agg cs ∧ cs.size = P.cellsOf t := by
  simp only [Value.okWide, hu] at h
  obtain ⟨cs, h1, h2, _⟩ := h
  exact ⟨cs, h1, h2⟩
theorem arr2 {d : Kd α} {hs : 0 < d.sz} (h1 : d.sz = 1) {W : World} {x : List α} {cs : Array Value} (h : (Kd.arr 2 d hs).K W x cs.toList) : ∃ a b c0 c1, x = [a, b] ∧ cs = #[c0, c1] ∧ d.K W a [c0] ∧ d.K W b [c1] := by
  obtain ⟨hl, hc, hr⟩ := h
  rw [hl, h1] at hc
  obtain ⟨l⟩ := cs
  match x, hl, l, hc, hr with
  | [a, b], _, [c0, c1], _, hr => exact ⟨a, b, c0, c1, rfl, rfl, by have := hr 0 a rfl; rw [h1] at this; exact this, by have := hr 1 b rfl; rw [h1] at this; exact this⟩
theorem arr3 {d : Kd α} {hs : 0 < d.sz} (h1 : d.sz = 1) {W : World} {x : List α} {cs : Array Value} (h : (Kd.arr 3 d hs).K W x cs.toList) : ∃ a b c c0 c1 c2, x = [a, b, c] ∧ cs = #[c0, c1, c2] ∧ d.K W a [c0] ∧ d.K W b [c1] ∧ d.K W c [c2] := by
  obtain ⟨hl, hc, hr⟩ := h
  rw [hl, h1] at hc
  obtain ⟨l⟩ := cs
  match x, hl, l, hc, hr with
  | [a, b, c], _, [c0, c1, c2], _, hr => exact ⟨a, b, c, c0, c1, c2, rfl, rfl, by have := hr 0 a rfl; rw [h1] at this; exact this, by have := hr 1 b rfl; rw [h1] at this; exact this, by have := hr 2 c rfl; rw [h1] at this; exact this⟩
end
end Go.Proofs.YtphkohdfdkmpcaaO

-- OpenW
namespace Go.Proofs.YtphkohdfdkmpcaaO
set_option linter.unusedSimpArgs false
open Go Go.RowKit Go.ChangeShapes Go.WideShapes Go.ChangeAt Go.Proofs.YtphkohdfdkmpcaaW.PrintWords
/-- cells of type t that can be read as data of no more weight than is reached are some x of kind d -/
def OpensW {α : Type} (P : Program) (t : TypeId) (d : Kd α) (ok : α → Prop) : Prop :=
  ∀ (H : Type) (enc : TypeId × Value → H) (W : World) (sp : Nat → Bool) (held : Bool) (fuel : Nat) (cs : List Value) (y : DataW H × List MemPlace), DataW.trod enc P W 0 sp held fuel t cs = some y → (∀ n ∈ y.1.weights P t, n ≤ reachBytes) → ∃ x, d.K W x cs ∧ ok x
section
variable {P : Program} {α : Type}
theorem Opens.w {t : TypeId} {d : Kd α} {ok : α → Prop} (h : Opens P t d ok) : OpensW P t d ok := fun H enc W sp held fuel cs y hy _ => h H enc W sp held fuel cs y hy
theorem opensW_string {t : TypeId} (hu : P.underlying t = some .string) : OpensW P t Kd.string (fun s => s.size ≤ 140737488351232) := by
  intro H enc W sp held fuel cs y h hw
  cases fuel with
  | zero => simp [DataW.trod] at h
  | succ n =>
    have key : ∃ s, cs = [.string s] ∧ y.1 = .lit (.string s.data.toList) := by
      simp only [DataW.trod, hu] at h
      split at h <;> simp_all
      rw [← h.2]
    obtain ⟨s, rfl, hy⟩ := key
    refine ⟨s, rfl, ?_⟩
    have := hw s.size (by rw [hy]; simp [DataW.weights])
    exact this
theorem mapM_mem {β γ : Type} {f : β → Option γ} : ∀ {l : List β} {ys : List γ}, l.mapM f = some ys → ∀ (x : β) (z : γ), x ∈ l → f x = some z → z ∈ ys
  | [], ys, h, x, z, hx, _ => by simp at hx
  | a :: l, ys, h, x, z, hx, hz => by
    simp only [List.mapM_cons] at h
    obtain ⟨b, hb, h⟩ := Option.bind_eq_some_iff.1 h
    obtain ⟨bs, hbs, h⟩ := Option.bind_eq_some_iff.1 h
    simp at h
    subst h
    rcases List.mem_cons.1 hx with rfl | hx
    · rw [hb] at hz; injection hz with hz; subst hz; simp
    · exact List.mem_cons_of_mem _ (mapM_mem hbs x z hx hz)
theorem weightsAll_mem {H : Type} {e : TypeId} {d : DataW H} {n : Nat} : ∀ {ds : List (DataW H)}, d ∈ ds → n ∈ d.weights P e → n ∈ DataW.weightsAll P e ds
  | [], h, _ => by simp at h
  | a :: ds, h, hn => by
    simp only [DataW.weightsAll]
    rcases List.mem_cons.1 h with rfl | h
    · exact List.mem_append_left _ hn
    · exact List.mem_append_right _ (weightsAll_mem h hn)
theorem opensW_slice {t e : TypeId} {d : Kd α} {ok : α → Prop} (hu : P.underlying t = some (.slice e)) (he : OpensW P e d ok) (hc : P.cellsOf e = d.sz) : OpensW P t (Kd.slice e d) (fun xs => ∀ x ∈ xs, ok x) := by
  intro H enc W sp held fuel cs y h hw
  cases fuel with
  | zero => simp [DataW.trod] at h
  | succ n =>
    have key : cs = [.slice none 0 0] ∨ ∃ a len cap, cs = [.slice (some a) len cap] ∧ len ≤ cap ∧ cap ≤ maxLen ∧ ∃ elems rest, (List.range len).mapM (fun i => (W.cells? 0 (a.add (i * P.cellsOf e)) (P.cellsOf e)).bind (DataW.trod enc P W 0 sp held n e)) = some elems ∧ y.1 = .slice (elems.map (·.1)) rest := by
      simp only [DataW.trod, hu] at h
      split at h <;> try (simp_all; done)
      rename_i e' a len cap heq
      simp only [Option.some.injEq, TypeDesc.slice.injEq] at heq
      subst heq
      split at h
      · rename_i hb
        obtain ⟨elems, he1, h⟩ := Option.bind_eq_some_iff.1 h
        obtain ⟨rest, _, h⟩ := Option.map_eq_some_iff.1 h
        refine .inr ⟨a, len, cap, rfl, hb.2.1, hb.2.2, elems, rest.map (·.1), he1, ?_⟩
        rw [← h]
      · cases h
    rcases key with rfl | ⟨a, len, cap, rfl, h1, h2, elems, rest, he1, hy⟩
    · exact ⟨[], ⟨none, 0, rfl, by simp, by simp [Kd.C, ReadsRow]⟩, by simp⟩
    · rw [hc] at he1
      have hm := mapM_get he1
      obtain ⟨xs, x1, x2, x3⟩ := choose_list (ok := ok) (Q := fun i x => ∃ c, W.cells? 0 (a.add (i * d.sz)) d.sz = some c ∧ d.K W x c) len (fun i hi => by
        obtain ⟨z, hz⟩ := hm.2 i i (by simp [hi])
        have hmem := mapM_mem he1 i z (by simp [hi]) hz
        obtain ⟨c, hc1, hc2⟩ := Option.bind_eq_some_iff.1 hz
        obtain ⟨x, hx, hk⟩ := he H enc W sp held n c z hc2 (fun q hq => hw q (by
          rw [hy]
          simp only [DataW.weights, hu]
          exact List.mem_cons_of_mem _ (List.mem_append_left _ (weightsAll_mem (List.mem_map_of_mem hmem) hq))))
        exact ⟨x, ⟨c, hc1, hx⟩, hk⟩)
      refine ⟨xs, ⟨some a, cap, by rw [x1], by omega, ?_⟩, x3⟩
      refine ⟨rfl, by have : maxLen = 9223372036854775807 := rfl; omega, fun _ => ⟨a, rfl, fun j p hp => ?_⟩⟩
      obtain ⟨c, hc1, hk⟩ := x2 j p hp
      have hg := cells_get hc1
      refine ⟨c, hg.1, hk, fun i u hiu => ?_⟩
      have := hg.2 i u hiu
      rw [← this]
      congr 1
      unfold Addr.add
      by_cases z1 : j * d.sz = 0
      · rw [if_pos z1]
        by_cases z2 : i = 0
        · simp [z1, z2]
        · rw [if_neg (by omega), if_neg z2]; simp [z1]
      · rw [if_neg z1, if_neg (by omega)]
        by_cases z2 : i = 0
        · simp [z2]
        · rw [if_neg z2]; simp [Nat.add_assoc]
theorem opensW_array {t e n : Nat} {d : Kd α} {ok : α → Prop} (hs : 0 < d.sz) (hu : P.underlying t = some (.array n e)) (he : OpensW P e d ok) (hc : P.cellsOf e = d.sz) (ht : P.cellsOf t = n * d.sz) : OpensW P t (Kd.arr n d hs) (fun xs => ∀ x ∈ xs, ok x) := by
  intro H enc W sp held fuel cs y h hw
  cases fuel with
  | zero => simp [DataW.trod] at h
  | succ m =>
    simp only [DataW.trod, hu] at h
    split at h
    · rename_i hl
      obtain ⟨ys, hy, hyy⟩ := Option.map_eq_some_iff.1 h
      have hm := mapM_get hy
      obtain ⟨xs, x1, x2, x3⟩ := choose_list (ok := ok) (Q := fun i x => d.K W x ((cs.drop (i * d.sz)).take d.sz)) n (fun i hi => by
        obtain ⟨z, hz⟩ := hm.2 i i (by simp [hi])
        have hmem := mapM_mem hy i z (by simp [hi]) hz
        rw [hc] at hz
        exact he H enc W sp held m _ z hz (fun q hq => hw q (by
          rw [← hyy]
          simp only [DataW.weights, hu]
          exact weightsAll_mem (List.mem_map_of_mem hmem) hq)))
      exact ⟨xs, ⟨x1, by rw [x1, hl, ht], x2⟩, x3⟩
    · cases h
/-- an argument of a kind -/
theorem opensW_arg {t : TypeId} {d : Kd α} {ok : α → Prop} (ho : OpensW P t d ok) {H : Type} {enc : TypeId × Value → H} {W : World} {sp : Nat → Bool} {held : Bool} {v : Value} {y : DataW H} {ps : List MemPlace} {ts : List TypeId} {ds : List (DataW H)} {j : Nat}
    (hsz : (DataW.weightsEach P ts ds).all (· ≤ reachBytes) = true) (ht : ts[j]? = some t) (hd : ds[j]? = some y) (h : DataW.Trod enc P W 0 sp held t v y ps) : ∃ x, d.K W x v.cells.toList ∧ ok x := by
  obtain ⟨fuel, hf⟩ := h
  exact ho H enc W sp held fuel _ _ hf (fun n hn => by
    have := List.all_eq_true.1 hsz _ (DataW.weights_mem_each ht hd n hn)
    simpa using this)
end
end Go.Proofs.YtphkohdfdkmpcaaO
