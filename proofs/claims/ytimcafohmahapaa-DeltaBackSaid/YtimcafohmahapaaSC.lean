/- Texts of this seat laid together: ShaY, ShaL, ShaR, MacM, MacT, MacR, MacS, F41, F31, F42, RollMath, NumG, SgnC, F23, SgnO, DelM, F8, Grp, DelN, DelE, DelF, RowO, F36, SgnB, SgnT. -/
import Derived.Test.YtimcafohmahapaaSB
import Derived.Lib.LazyBuf
import Derived.Test.YtimcafohmahapaaSA
import Derived.Laws.BitsLemmas
import Derived.RowKit
import Derived.Maps.GroupsBeside
import Derived.Maps.Range
import Derived.Laws.MakeOwn
import Derived.Test.YtimcafohmahapaaVEqStruct

-- ShaY
namespace Go.Proofs.Ytimcafohmahapaa.F
open Go Go.RowKit Go.Proofs.YtimcafohmahapaaW.PrintWords Go.Proofs.YtimcafohmahapaaW.PrintLast Go.Proofs.YtimcafohmahapaaW.PrintMore Go.Proofs.YtimcafohmahapaaR
attribute [local go_sem] max2_int min2_int max_two min_two
set_option linter.unusedSimpArgs false
set_option linter.unusedVariables false
set_option maxRecDepth 100000
/-- the world of the reference's mixing: the words, the state, the result and the schedule lie in four blocks of its own -/
structure MixR (w : World) (ks s x : List Nat) (wr : World) : Prop where
  bk : Blk wr w.heap.size 89 (wcells ks)
  b0 : Blk wr (w.heap.size + 1) 91 (wcells s)
  b1 : Blk wr (w.heap.size + 1 + 1) 91 (wcells (List.replicate 8 0))
  b2 : Blk wr (w.heap.size + 1 + 1 + 1) 89 (wcells x)
  gr : Grew w wr
theorem MixR.grew {w : World} {ks s x : List Nat} {wr w' : World} (h : MixR w ks s x wr) (hg : Grew wr w') : MixR w ks s x w' := ⟨h.bk.grew hg, h.b0.grew hg, h.b1.grew hg, h.b2.grew hg, h.gr.trans hg⟩
theorem MixR.set2 {w : World} {ks s x : List Nat} {wr : World} (h : MixR w ks s x wr) (i v : Nat) : MixR w ks s (x.set i v) (wr.setCell ⟨w.heap.size + 1 + 1 + 1, i, none⟩ (.int .u32 (v : Int))) :=
  ⟨h.bk.far (by simp <;> omega) _, h.b0.far (by simp <;> omega) _, h.b1.far (by simp) _, by rw [← wcells_set]; exact h.b2.set i _, Grew.setCell_new h.gr (by simp <;> omega) _⟩
theorem MixR.set0 {w : World} {ks s x : List Nat} {wr : World} (h : MixR w ks s x wr) (i v : Nat) : MixR w ks (s.set i v) x (wr.setCell ⟨w.heap.size + 1, i, none⟩ (.int .u32 (v : Int))) :=
  ⟨h.bk.far (by simp) _, by rw [← wcells_set]; exact h.b0.set i _, h.b1.far (by simp) _, h.b2.far (by simp <;> omega) _, Grew.setCell_new h.gr (by simp) _⟩
/-- .. and the rounds' words in a fifth one -/
structure MixZ (w : World) (ks s x z : List Nat) (gz : Nat) (wr : World) : Prop where
  m : MixR w ks s x wr
  bz : Blk wr gz 91 (wcells z)
  hg : w.heap.size + 1 + 1 + 1 < gz
theorem MixR.row {w : World} {ks s x : List Nat} {wr : World} (h : MixR w ks s x wr) {gz : Nat} (hg : w.heap.size + 1 + 1 + 1 < gz) (c : Array Value) : MixR w ks s x (wr.setRow gz c) :=
  ⟨h.bk.farRow (by omega) _, h.b0.farRow (by omega) _, h.b1.farRow (by omega) _, h.b2.farRow (by omega) _, Grew.setRow h.gr (by omega) _⟩
theorem MixZ.grew {w : World} {ks s x z : List Nat} {gz : Nat} {wr w' : World} (h : MixZ w ks s x z gz wr) (hg : Grew wr w') : MixZ w ks s x z gz w' := ⟨h.m.grew hg, h.bz.grew hg, h.hg⟩
theorem MixZ.setz {w : World} {ks s x z : List Nat} {gz : Nat} {wr : World} (h : MixZ w ks s x z gz wr) (z' : List Nat) : MixZ w ks s x z' gz (wr.setRow gz (wcells z').toArray) :=
  ⟨h.m.row h.hg _, h.bz.setRow _, h.hg⟩
theorem MixZ.set0 {w : World} {ks s x z : List Nat} {gz : Nat} {wr : World} (h : MixZ w ks s x z gz wr) (i v : Nat) : MixZ w ks (s.set i v) x z gz (wr.setCell ⟨w.heap.size + 1, i, none⟩ (.int .u32 (v : Int))) :=
  ⟨h.m.set0 i v, h.bz.far (by have := h.hg; simp; omega) _, h.hg⟩
theorem notr {e : Nat} (h : e < 4294967296) : IntKind.u32.wrap (4294967295 - (e : Int)) = ((notW e : Nat) : Int) := by rw [IntWalk.u32_in _ (by omega)]; unfold notW; omega
theorem rturn_n (a : Nat) (m : Int) (n : Nat) (hm : m = (n : Int)) (ha : a < 4294967296) (h1 : 1 ≤ n) (h2 : n ≤ 31) (w : World) : Calls Try.prog 67 #[.int .u32 (a : Int), .int .u64 m] w (Tells w (Is (.int .u32 ((rotW a n : Nat) : Int)))) := by
  subst hm; exact rturn_c a n ha h1 h2 w
theorem str_at (l : List Int) (hl : ∀ x ∈ l, 0 ≤ x ∧ x < 256) (i : Nat) (h : i < (strOfNums l).size) : ((strOfNums l)[i]).toNat = byteN l i := by
  have h1 : i < l.length := by rw [← str_size l]; exact h
  have h2 := hl _ (List.getElem_mem h1)
  unfold byteN
  rw [List.getD_eq_getElem?_getD, List.getElem?_eq_getElem h1]
  show ((strOfNums l).data[i]).toNat = _
  simp only [strOfNums, Option.getD_some]
  rw [List.getElem_toArray, List.getElem_map]
  rw [UInt8.toNat_ofNat']
  omega
set_option maxHeartbeats 4000000 in
theorem rmix_c (w : World) (ks s : List Nat) (l : List Int) (hkl : ks.length = 64) (hkw : words ks) (hsl : s.length = 8) (hsw : words s) (hl : l.length = 64) (hlb : ∀ x ∈ l, 0 ≤ x ∧ x < 256) :
    Calls Try.prog 60 #[.agg (wcells ks).toArray, .agg (wcells s).toArray, .string (strOfNums l)] w (Tells w (Is (.agg (wcells (mixL ks s l)).toArray))) := by
  obtain ⟨B, hBs, hB⟩ : ∃ B : ByteArray, strOfNums l = B ∧ ∀ i (h : i < B.size), (B[i]).toNat = byteN l i := ⟨_, rfl, str_at l hlb⟩
  have hBl : B.size = 64 := by rw [← hBs, str_size, hl]
  rw [hBs]
  clear hBs
  have hix : ∀ i : Nat, i < 64 → ∀ w', Sem.run Try.prog (Instr.index 9 (.string B) (.int .i64 (i : Int))) w' = .ok (.int .u8 ((byteN l i : Nat) : Int)) w' := by
    intro i hi w'
    rw [run_index_string w' _ B .i64 _ (by rfl), dif_pos (by omega)]
    congr 2
    rw [← hB i (by omega)]; rfl
  clear hB hBl
  go_enter Try.func60, Try.ntmps60
  go_wp2_with fail
  rw [zeros8, zeros64]
  have hm0 : MixR w ks s (arr64 []) ((((w.alloc (.cells (wcells ks).toArray 89)).alloc (.cells (wcells s).toArray 91)).alloc (.cells (wcells (List.replicate 8 0)).toArray 91)).alloc (.cells (wcells (arr64 [])).toArray 89)) :=
    ⟨(((Blk.new w _ _).grew (Grew.alloc _ _)).grew (Grew.alloc _ _)).grew (Grew.alloc _ _), by simpa using ((Blk.new (w.alloc (.cells (wcells ks).toArray 89)) 91 (wcells s)).grew (Grew.alloc _ _)).grew (Grew.alloc _ _), by simpa using (Blk.new ((w.alloc (.cells (wcells ks).toArray 89)).alloc (.cells (wcells s).toArray 91)) 91 (wcells (List.replicate 8 0))).grew (Grew.alloc _ _), by simpa using Blk.new (((w.alloc (.cells (wcells ks).toArray 89)).alloc (.cells (wcells s).toArray 91)).alloc (.cells (wcells (List.replicate 8 0)).toArray 91)) 89 (wcells (arr64 [])), (((Grew.alloc _ _).trans (Grew.alloc _ _)).trans (Grew.alloc _ _)).trans (Grew.alloc _ _)⟩
  obtain ⟨W, hW⟩ : ∃ W, W = ((((w.alloc (.cells (wcells ks).toArray 89)).alloc (.cells (wcells s).toArray 91)).alloc (.cells (wcells (List.replicate 8 0)).toArray 91)).alloc (.cells (wcells (arr64 [])).toArray 89)) := ⟨_, rfl⟩
  rw [← hW] at hm0 ⊢
  clear hW
  go_loopw [8] (fun iv wr => ∃ t : Nat, iv = .int .i64 (t : Int) ∧ t ≤ 16 ∧ MixR w ks s (arr64 (ws l t)) wr) (fun iv _ => 16 - (intOf iv).toNat)
  case atStart => exact ⟨0, rfl, by omega, hm0⟩
  case round =>
    obtain ⟨t, rfl, ht, hm⟩ := hrel
    clear hm0
    by_cases hlt : t < 16
    · have d1 : decide ((t : Int) < 16) = true := decide_eq_true (by omega)
      obtain ⟨n0, hn0⟩ : ∃ n, n = 4 * t := ⟨_, rfl⟩
      obtain ⟨n1, hn1⟩ : ∃ n, n = 4 * t + 1 := ⟨_, rfl⟩
      obtain ⟨n2, hn2⟩ : ∃ n, n = 4 * t + 2 := ⟨_, rfl⟩
      obtain ⟨n3, hn3⟩ : ∃ n, n = 4 * t + 3 := ⟨_, rfl⟩
      have e0 : IntKind.i64.wrap (4 * (t : Int)) = (n0 : Int) := by rw [IntWalk.i64_in _ (by omega)]; omega
      have e1 : IntKind.i64.wrap ((n0 : Int) + 1) = (n1 : Int) := by rw [IntWalk.i64_in _ (by omega)]; omega
      have e2 : IntKind.i64.wrap ((n0 : Int) + 2) = (n2 : Int) := by rw [IntWalk.i64_in _ (by omega)]; omega
      have e3 : IntKind.i64.wrap ((n0 : Int) + 3) = (n3 : Int) := by rw [IntWalk.i64_in _ (by omega)]; omega
      have I0 := hix n0 (by omega)
      have I1 := hix n1 (by omega)
      have I2 := hix n2 (by omega)
      have I3 := hix n3 (by omega)
      have k0 := byteN_lt hlb n0
      have k1 := byteN_lt hlb n1
      have k2 := byteN_lt hlb n2
      have k3 := byteN_lt hlb n3
      have hbe : be32 l t = byteN l n0 * 16777216 + byteN l n1 * 65536 + byteN l n2 * 256 + byteN l n3 := by rw [hn0, hn1, hn2, hn3]; rfl
      obtain ⟨v0, hv0⟩ : ∃ v, v = byteN l n0 := ⟨_, rfl⟩
      obtain ⟨v1, hv1⟩ : ∃ v, v = byteN l n1 := ⟨_, rfl⟩
      obtain ⟨v2, hv2⟩ : ∃ v, v = byteN l n2 := ⟨_, rfl⟩
      obtain ⟨v3, hv3⟩ : ∃ v, v = byteN l n3 := ⟨_, rfl⟩
      rw [← hv0] at I0 k0 hbe
      rw [← hv1] at I1 k1 hbe
      rw [← hv2] at I2 k2 hbe
      rw [← hv3] at I3 k3 hbe
      obtain ⟨p0, hp0⟩ : ∃ p, p = v0 * 16777216 := ⟨_, rfl⟩
      obtain ⟨p1, hp1⟩ : ∃ p, p = v1 * 65536 := ⟨_, rfl⟩
      obtain ⟨p2, hp2⟩ : ∃ p, p = v2 * 256 := ⟨_, rfl⟩
      have g0 : IntKind.u32.wrap ((v0 : Int) * 16777216) = (p0 : Int) := by rw [IntWalk.u32_in _ (by omega)]; omega
      have g1 : IntKind.u32.wrap ((v1 : Int) * 65536) = (p1 : Int) := by rw [IntWalk.u32_in _ (by omega)]; omega
      have g2 : IntKind.u32.wrap ((v2 : Int) * 256) = (p2 : Int) := by rw [IntWalk.u32_in _ (by omega)]; omega
      obtain ⟨q1, hq1⟩ : ∃ q, q = p0 + p1 := ⟨_, rfl⟩
      obtain ⟨q2, hq2⟩ : ∃ q, q = q1 + p2 := ⟨_, rfl⟩
      obtain ⟨q3, hq3⟩ : ∃ q, q = q2 + v3 := ⟨_, rfl⟩
      have s1 : IntKind.u32.wrap ((p0 : Int) + (p1 : Int)) = (q1 : Int) := by rw [IntWalk.u32_in _ (by omega)]; omega
      have s2 : IntKind.u32.wrap ((q1 : Int) + (p2 : Int)) = (q2 : Int) := by rw [IntWalk.u32_in _ (by omega)]; omega
      have s3 : IntKind.u32.wrap ((q2 : Int) + (v3 : Int)) = (q3 : Int) := by rw [IntWalk.u32_in _ (by omega)]; omega
      have HBE := Lib.hid (show be32 l t = q3 from by omega)
      have HQ := Lib.hid (show (v0 : Int) * 16777216 + (v1 : Int) * 65536 + (v2 : Int) * 256 + (v3 : Int) = (q3 : Int) from by omega)
      have HM := Lib.hid hm
      clear hm hbe hp0 hp1 hp2 hq1 hq2 hq3 hv0 hv1 hv2 hv3 hn0 hn1 hn2 hn3
      go_wp2_with fail
      apply region_grew [Is _, Is _, Is _, Is _, Is _, Is _, Is _, Is _, Is _, Is _, Is _, Is _, Is _, Is _, Is _, Is _, Is _, Is _, Is _, Is _, Is _, Is _, Is _, Is _, Is _, Is _, Is _, Is _, Is _, Is _] [([(8, none)], none), ([(2, none)], none), ([(8, none)], none), ([(23, some 2)], none), ([(22, some 1), (24, some 3)], none), ([(25, some 4)], none), ([(26, some 5)], none), ([(2, none)], none), ([(8, none)], none), ([(29, some 8)], none), ([(30, some 9)], none), ([(28, some 7), (31, some 10)], none), ([(32, some 11)], none), ([(33, some 12)], none), ([(27, some 6), (34, some 13)], none), ([(2, none)], none), ([(8, none)], none), ([(37, some 16)], none), ([(38, some 17)], none), ([(36, some 15), (39, some 18)], none), ([(40, some 19)], none), ([(41, some 20)], none), ([(35, some 14), (42, some 21)], none), ([(2, none)], none), ([(8, none)], none), ([(45, some 24)], none), ([(46, some 25)], none), ([(44, some 23), (47, some 26)], none), ([(48, some 27)], none), ([(43, some 22), (49, some 28)], none)] [(21, 0), (22, 1), (23, 2), (24, 3), (25, 4), (26, 5), (27, 6), (28, 7), (29, 8), (30, 9), (31, 10), (32, 11), (33, 12), (34, 13), (35, 14), (36, 15), (37, 16), (38, 17), (39, 18), (40, 19), (41, 20), (42, 21), (43, 22), (44, 23), (45, 24), (46, 25), (47, 26), (48, 27), (49, 28), (50, 29)] rfl (by kernel_rfl) (by kernel_rfl) (show Stable Grew _ from ⟨Is.stable _, Is.stable _, Is.stable _, Is.stable _, Is.stable _, Is.stable _, Is.stable _, Is.stable _, Is.stable _, Is.stable _, Is.stable _, Is.stable _, Is.stable _, Is.stable _, Is.stable _, Is.stable _, Is.stable _, Is.stable _, Is.stable _, Is.stable _, Is.stable _, Is.stable _, Is.stable _, Is.stable _, Is.stable _, Is.stable _, Is.stable _, Is.stable _, Is.stable _, Is.stable _, trivial⟩)
      · show OpsHold _ _ _ _ _ _ _ _ _
        refine ⟨fun a_ wx hR hD K hK => ?_, ?_⟩
        · have hG : Grew wr wx := (Grew.drew _).trans hR
          simp [Deps, Dep, at_, Is] at hD
          go_simp
          exact hK _ _ (Grew.refl _) rfl
        refine ⟨fun a_ wx hR hD K hK => ?_, ?_⟩
        · have hG : Grew wr wx := (Grew.drew _).trans hR
          simp [Deps, Dep, at_, Is] at hD
          go_simp
          exact hK _ _ (Grew.refl _) rfl
        refine ⟨fun a_ wx hR hD K hK => ?_, ?_⟩
        · have hG : Grew wr wx := (Grew.drew _).trans hR
          simp [Deps, Dep, at_, Is] at hD
          go_simp
          exact hK _ _ (Grew.refl _) rfl
        refine ⟨fun a_ wx hR hD K hK => ?_, ?_⟩
        · have hG : Grew wr wx := (Grew.drew _).trans hR
          simp [Deps, Dep, at_, Is] at hD
          go_simp
          exact hK _ _ (Grew.refl _) rfl
        refine ⟨fun a_ wx hR hD K hK => ?_, ?_⟩
        · have hG : Grew wr wx := (Grew.drew _).trans hR
          simp [Deps, Dep, at_, Is] at hD
          obtain ⟨hd0, hd1⟩ := hD
          go_simp
          exact hK _ _ (Grew.refl _) rfl
        refine ⟨fun a_ wx hR hD K hK => ?_, ?_⟩
        · have hG : Grew wr wx := (Grew.drew _).trans hR
          simp [Deps, Dep, at_, Is] at hD
          go_simp
          exact hK _ _ (Grew.refl _) rfl
        refine ⟨fun a_ wx hR hD K hK => ?_, ?_⟩
        · have hG : Grew wr wx := (Grew.drew _).trans hR
          simp [Deps, Dep, at_, Is] at hD
          go_simp
          exact hK _ _ (Grew.refl _) rfl
        refine ⟨fun a_ wx hR hD K hK => ?_, ?_⟩
        · have hG : Grew wr wx := (Grew.drew _).trans hR
          simp [Deps, Dep, at_, Is] at hD
          go_simp
          exact hK _ _ (Grew.refl _) rfl
        refine ⟨fun a_ wx hR hD K hK => ?_, ?_⟩
        · have hG : Grew wr wx := (Grew.drew _).trans hR
          simp [Deps, Dep, at_, Is] at hD
          go_simp
          exact hK _ _ (Grew.refl _) rfl
        refine ⟨fun a_ wx hR hD K hK => ?_, ?_⟩
        · have hG : Grew wr wx := (Grew.drew _).trans hR
          simp [Deps, Dep, at_, Is] at hD
          go_simp
          exact hK _ _ (Grew.refl _) rfl
        refine ⟨fun a_ wx hR hD K hK => ?_, ?_⟩
        · have hG : Grew wr wx := (Grew.drew _).trans hR
          simp [Deps, Dep, at_, Is] at hD
          go_simp
          exact hK _ _ (Grew.refl _) rfl
        refine ⟨fun a_ wx hR hD K hK => ?_, ?_⟩
        · have hG : Grew wr wx := (Grew.drew _).trans hR
          simp [Deps, Dep, at_, Is] at hD
          obtain ⟨hd0, hd1⟩ := hD
          go_simp
          exact hK _ _ (Grew.refl _) rfl
        refine ⟨fun a_ wx hR hD K hK => ?_, ?_⟩
        · have hG : Grew wr wx := (Grew.drew _).trans hR
          simp [Deps, Dep, at_, Is] at hD
          go_simp
          exact hK _ _ (Grew.refl _) rfl
        refine ⟨fun a_ wx hR hD K hK => ?_, ?_⟩
        · have hG : Grew wr wx := (Grew.drew _).trans hR
          simp [Deps, Dep, at_, Is] at hD
          go_simp
          exact hK _ _ (Grew.refl _) rfl
        refine ⟨fun a_ wx hR hD K hK => ?_, ?_⟩
        · have hG : Grew wr wx := (Grew.drew _).trans hR
          simp [Deps, Dep, at_, Is] at hD
          obtain ⟨hd0, hd1⟩ := hD
          go_simp
          exact hK _ _ (Grew.refl _) rfl
        refine ⟨fun a_ wx hR hD K hK => ?_, ?_⟩
        · have hG : Grew wr wx := (Grew.drew _).trans hR
          simp [Deps, Dep, at_, Is] at hD
          go_simp
          exact hK _ _ (Grew.refl _) rfl
        refine ⟨fun a_ wx hR hD K hK => ?_, ?_⟩
        · have hG : Grew wr wx := (Grew.drew _).trans hR
          simp [Deps, Dep, at_, Is] at hD
          go_simp
          exact hK _ _ (Grew.refl _) rfl
        refine ⟨fun a_ wx hR hD K hK => ?_, ?_⟩
        · have hG : Grew wr wx := (Grew.drew _).trans hR
          simp [Deps, Dep, at_, Is] at hD
          go_simp
          exact hK _ _ (Grew.refl _) rfl
        refine ⟨fun a_ wx hR hD K hK => ?_, ?_⟩
        · have hG : Grew wr wx := (Grew.drew _).trans hR
          simp [Deps, Dep, at_, Is] at hD
          go_simp
          exact hK _ _ (Grew.refl _) rfl
        refine ⟨fun a_ wx hR hD K hK => ?_, ?_⟩
        · have hG : Grew wr wx := (Grew.drew _).trans hR
          simp [Deps, Dep, at_, Is] at hD
          obtain ⟨hd0, hd1⟩ := hD
          go_simp
          exact hK _ _ (Grew.refl _) rfl
        refine ⟨fun a_ wx hR hD K hK => ?_, ?_⟩
        · have hG : Grew wr wx := (Grew.drew _).trans hR
          simp [Deps, Dep, at_, Is] at hD
          go_simp
          exact hK _ _ (Grew.refl _) rfl
        refine ⟨fun a_ wx hR hD K hK => ?_, ?_⟩
        · have hG : Grew wr wx := (Grew.drew _).trans hR
          simp [Deps, Dep, at_, Is] at hD
          go_simp
          exact hK _ _ (Grew.refl _) rfl
        refine ⟨fun a_ wx hR hD K hK => ?_, ?_⟩
        · have hG : Grew wr wx := (Grew.drew _).trans hR
          simp [Deps, Dep, at_, Is] at hD
          obtain ⟨hd0, hd1⟩ := hD
          go_simp
          exact hK _ _ (Grew.refl _) rfl
        refine ⟨fun a_ wx hR hD K hK => ?_, ?_⟩
        · have hG : Grew wr wx := (Grew.drew _).trans hR
          simp [Deps, Dep, at_, Is] at hD
          go_simp
          exact hK _ _ (Grew.refl _) rfl
        refine ⟨fun a_ wx hR hD K hK => ?_, ?_⟩
        · have hG : Grew wr wx := (Grew.drew _).trans hR
          simp [Deps, Dep, at_, Is] at hD
          go_simp
          exact hK _ _ (Grew.refl _) rfl
        refine ⟨fun a_ wx hR hD K hK => ?_, ?_⟩
        · have hG : Grew wr wx := (Grew.drew _).trans hR
          simp [Deps, Dep, at_, Is] at hD
          go_simp
          exact hK _ _ (Grew.refl _) rfl
        refine ⟨fun a_ wx hR hD K hK => ?_, ?_⟩
        · have hG : Grew wr wx := (Grew.drew _).trans hR
          simp [Deps, Dep, at_, Is] at hD
          go_simp
          exact hK _ _ (Grew.refl _) rfl
        refine ⟨fun a_ wx hR hD K hK => ?_, ?_⟩
        · have hG : Grew wr wx := (Grew.drew _).trans hR
          simp [Deps, Dep, at_, Is] at hD
          obtain ⟨hd0, hd1⟩ := hD
          go_simp
          exact hK _ _ (Grew.refl _) rfl
        refine ⟨fun a_ wx hR hD K hK => ?_, ?_⟩
        · have hG : Grew wr wx := (Grew.drew _).trans hR
          simp [Deps, Dep, at_, Is] at hD
          go_simp
          exact hK _ _ (Grew.refl _) rfl
        refine ⟨fun a_ wx hR hD K hK => ?_, ?_⟩
        · have hG : Grew wr wx := (Grew.drew _).trans hR
          simp [Deps, Dep, at_, Is] at hD
          obtain ⟨hd0, hd1⟩ := hD
          go_simp
          exact hK _ _ (Grew.refl _) rfl
        trivial
      · show EndHold _ _ _ _ _ _ _
        refine end_all (xs := [_, _, _, _, _, _, _, _, _, _, _, _, _, _, _, _, _, _, _, _, _, _, _, _, _, _, _, _, _, _]) ⟨rfl, rfl, rfl, rfl, rfl, rfl, rfl, rfl, rfl, rfl, rfl, rfl, rfl, rfl, rfl, rfl, rfl, rfl, rfl, rfl, rfl, rfl, rfl, rfl, rfl, rfl, rfl, rfl, rfl, rfl, trivial⟩ ?_
        rintro w5 hR1 -
        refine ⟨?_⟩
        have hG_w5 : Grew wr w5 := (Grew.drew _).trans hR1
        clear hR1
        simp only [Act.put, List.setIfInBounds_toArray, List.set_cons_succ, List.set_cons_zero, dropN, putEach]
        have HM5 := Lib.hid (HM.out.grew hG_w5)
        have c1 := HM5.out.b2.at_ t
        rw [cells_get _ _ (by rw [arr_len _ (by rw [ws_len]; omega)]; omega)] at c1
        have c2 := HM5.out.b2.fz t
        have i1 : (t : Int) < 64 := by omega
        go_wp2_with fail
        go_roundw
        case rel =>
          refine ⟨t + 1, by go_num, by omega, ?_⟩
          have h := HM5.out.set2 t (be32 l t)
          have hx4 : (arr64 (ws l t)).set t (be32 l t) = arr64 (ws l (t + 1)) := by
            have := arr_setN (ws l t) (by rw [ws_len]; omega) (be32 l t)
            rw [ws_len] at this
            rw [this]; simp only [ws]; rw [if_pos hlt]
          rw [hx4, HBE.out] at h
          rw [HQ.out]
          exact h
        case measure => simp [intOf]; omega
    · have d1 : decide ((t : Int) < 16) = false := decide_eq_false (by omega)
      obtain rfl : t = 16 := by omega
      go_wp2_with fail
      try rw [show ((16 : Nat) : Int) = 16 from rfl]
      go_loopw [9] (fun iv wr => ∃ t : Nat, iv = .int .i64 (t : Int) ∧ 16 ≤ t ∧ t ≤ 64 ∧ MixR w ks s (arr64 (ws l t)) wr) (fun iv _ => 64 - (intOf iv).toNat)
      case atStart => exact ⟨16, rfl, by omega, by omega, hm⟩
      case round =>
        obtain ⟨t, rfl, h16, ht, hm2⟩ := hrel
        clear hm
        have hm := hm2
        clear hm2
        replace h16 : ¬ t < 16 := by omega
        by_cases hlt : t < 64
        · have d1 : decide ((t : Int) < 64) = true := decide_eq_true (by omega)
          have i64 : (t : Int) < 64 := by omega
          have hl64 : (arr64 (ws l t)).length = 64 := arr_len _ (by rw [ws_len]; omega)
          obtain ⟨n15, hn15⟩ : ∃ n, n = t - 15 := ⟨_, rfl⟩
          obtain ⟨n16, hn16⟩ : ∃ n, n = t - 16 := ⟨_, rfl⟩
          obtain ⟨n7, hn7⟩ : ∃ n, n = t - 7 := ⟨_, rfl⟩
          obtain ⟨n2, hn2⟩ : ∃ n, n = t - 2 := ⟨_, rfl⟩
          have e15 : IntKind.i64.wrap ((t : Int) - 15) = (n15 : Int) := by rw [IntWalk.i64_in _ (by omega)]; omega
          have e16 : IntKind.i64.wrap ((t : Int) - 16) = (n16 : Int) := by rw [IntWalk.i64_in _ (by omega)]; omega
          have e7 : IntKind.i64.wrap ((t : Int) - 7) = (n7 : Int) := by rw [IntWalk.i64_in _ (by omega)]; omega
          have e2 : IntKind.i64.wrap ((t : Int) - 2) = (n2 : Int) := by rw [IntWalk.i64_in _ (by omega)]; omega
          have l15 : n15 < 64 := by omega
          have i15 : (n15 : Int) < 64 := by omega
          have l16 : n16 < 64 := by omega
          have i16 : (n16 : Int) < 64 := by omega
          have l7 : n7 < 64 := by omega
          have i7 : (n7 : Int) < 64 := by omega
          have l2 : n2 < 64 := by omega
          have i2 : (n2 : Int) < 64 := by omega
          have c15 := hm.b2.at_ n15
          have c16 := hm.b2.at_ n16
          have c7 := hm.b2.at_ n7
          have c2 := hm.b2.at_ n2
          rw [cells_get _ _ (by omega), arr_get] at c15 c16 c7 c2
          obtain ⟨x15, hx15⟩ : ∃ x, x = (ws l t).getD n15 0 := ⟨_, rfl⟩
          obtain ⟨x16, hx16⟩ : ∃ x, x = (ws l t).getD n16 0 := ⟨_, rfl⟩
          obtain ⟨x7, hx7⟩ : ∃ x, x = (ws l t).getD n7 0 := ⟨_, rfl⟩
          obtain ⟨x2, hx2⟩ : ∃ x, x = (ws l t).getD n2 0 := ⟨_, rfl⟩
          rw [← hx15] at c15
          rw [← hx16] at c16
          rw [← hx7] at c7
          rw [← hx2] at c2
          have b15 : x15 < 4294967296 := by rw [hx15]; exact words_get (ws_words hlb t) _
          have b2 : x2 < 4294967296 := by rw [hx2]; exact words_get (ws_words hlb t) _
          have HN := Lib.hid (show wnext (ws l t) t = addW (addW (addW x16 x7) (sg0 x15)) (sg1 x2) from by rw [hx15, hx16, hx7, hx2, hn15, hn16, hn7, hn2]; rfl)
          have HM := Lib.hid hm
          have C15 := Lib.hid c15
          have C16 := Lib.hid c16
          have C7 := Lib.hid c7
          have C2 := Lib.hid c2
          have f1 := shr_3 x15
          have f2 := xor_w (rotW_lt 7 b15) (rotW_lt 18 b15)
          have f3 := xor_w (xorW_lt (rotW_lt 7 b15) (rotW_lt 18 b15)) (shrW_lt 3 b15)
          clear hm c15 c16 c7 c2 hx15 hx16 hx7 hx2 hn15 hn16 hn7 hn2 hl64
          go_wp2_with fail
          apply region_grew [Is _, Is _, Is _, Is _, Is _, Is _, Is _, Is _, Is _, Is _, Is _, Is _, Is _, Is _, Is _, Is _] [([(9, none)], none), ([(56, some 0)], none), ([(7, none), (57, some 1)], none), ([(58, some 2)], none), ([(59, some 3)], none), ([(9, none)], none), ([(61, some 5)], none), ([(7, none), (62, some 6)], none), ([(63, some 7)], none), ([(64, some 8)], none), ([(60, some 4), (65, some 9)], none), ([(9, none)], none), ([(67, some 11)], none), ([(7, none), (68, some 12)], none), ([(69, some 13)], none), ([(70, some 14)], none)] [(56, 0), (57, 1), (58, 2), (59, 3), (60, 4), (61, 5), (62, 6), (63, 7), (64, 8), (65, 9), (66, 10), (67, 11), (68, 12), (69, 13), (70, 14), (71, 15)] rfl (by kernel_rfl) (by kernel_rfl) (show Stable Grew _ from ⟨Is.stable _, Is.stable _, Is.stable _, Is.stable _, Is.stable _, Is.stable _, Is.stable _, Is.stable _, Is.stable _, Is.stable _, Is.stable _, Is.stable _, Is.stable _, Is.stable _, Is.stable _, Is.stable _, trivial⟩)
          · show OpsHold _ _ _ _ _ _ _ _ _
            refine ⟨fun a_ wx hR hD K hK => ?_, ?_⟩
            · have hG : Grew wr wx := (Grew.drew _).trans hR
              simp [Deps, Dep, at_, Is] at hD
              go_simp
              exact hK _ _ (Grew.refl _) rfl
            refine ⟨fun a_ wx hR hD K hK => ?_, ?_⟩
            · have hG : Grew wr wx := (Grew.drew _).trans hR
              simp [Deps, Dep, at_, Is] at hD
              go_simp
              exact hK _ _ (Grew.refl _) rfl
            refine ⟨fun a_ wx hR hD K hK => ?_, ?_⟩
            · have hG : Grew wr wx := (Grew.drew _).trans hR
              simp [Deps, Dep, at_, Is] at hD
              obtain ⟨hd0, hd1⟩ := hD
              go_simp
              exact hK _ _ (Grew.refl _) rfl
            refine ⟨fun a_ wx hR hD K hK => ?_, ?_⟩
            · have hG : Grew wr wx := (Grew.drew _).trans hR
              simp [Deps, Dep, at_, Is] at hD
              have e_ := pw_cell_below hG C15.out
              go_simp
              exact hK _ _ (Grew.refl _) rfl
            refine ⟨fun a_ wx hR hD K hK => ?_, ?_⟩
            · have hG : Grew wr wx := (Grew.drew _).trans hR
              simp [Deps, Dep, at_, Is] at hD
              go_simp
              have hcn := rturn_n x15 7 7 rfl b15 (by omega) (by omega) wx
              with_reducible refine hcn.mono ?_
              clear hcn
              rintro e wy ⟨v, rfl, hv, hg⟩
              exact hK _ _ hg hv
            refine ⟨fun a_ wx hR hD K hK => ?_, ?_⟩
            · have hG : Grew wr wx := (Grew.drew _).trans hR
              simp [Deps, Dep, at_, Is] at hD
              go_simp
              exact hK _ _ (Grew.refl _) rfl
            refine ⟨fun a_ wx hR hD K hK => ?_, ?_⟩
            · have hG : Grew wr wx := (Grew.drew _).trans hR
              simp [Deps, Dep, at_, Is] at hD
              go_simp
              exact hK _ _ (Grew.refl _) rfl
            refine ⟨fun a_ wx hR hD K hK => ?_, ?_⟩
            · have hG : Grew wr wx := (Grew.drew _).trans hR
              simp [Deps, Dep, at_, Is] at hD
              obtain ⟨hd0, hd1⟩ := hD
              go_simp
              exact hK _ _ (Grew.refl _) rfl
            refine ⟨fun a_ wx hR hD K hK => ?_, ?_⟩
            · have hG : Grew wr wx := (Grew.drew _).trans hR
              simp [Deps, Dep, at_, Is] at hD
              have e_ := pw_cell_below hG C15.out
              go_simp
              exact hK _ _ (Grew.refl _) rfl
            refine ⟨fun a_ wx hR hD K hK => ?_, ?_⟩
            · have hG : Grew wr wx := (Grew.drew _).trans hR
              simp [Deps, Dep, at_, Is] at hD
              go_simp
              have hcn := rturn_n x15 18 18 rfl b15 (by omega) (by omega) wx
              with_reducible refine hcn.mono ?_
              clear hcn
              rintro e wy ⟨v, rfl, hv, hg⟩
              exact hK _ _ hg hv
            refine ⟨fun a_ wx hR hD K hK => ?_, ?_⟩
            · have hG : Grew wr wx := (Grew.drew _).trans hR
              simp [Deps, Dep, at_, Is] at hD
              obtain ⟨hd0, hd1⟩ := hD
              go_simp
              exact hK _ _ (Grew.refl _) rfl
            refine ⟨fun a_ wx hR hD K hK => ?_, ?_⟩
            · have hG : Grew wr wx := (Grew.drew _).trans hR
              simp [Deps, Dep, at_, Is] at hD
              go_simp
              exact hK _ _ (Grew.refl _) rfl
            refine ⟨fun a_ wx hR hD K hK => ?_, ?_⟩
            · have hG : Grew wr wx := (Grew.drew _).trans hR
              simp [Deps, Dep, at_, Is] at hD
              go_simp
              exact hK _ _ (Grew.refl _) rfl
            refine ⟨fun a_ wx hR hD K hK => ?_, ?_⟩
            · have hG : Grew wr wx := (Grew.drew _).trans hR
              simp [Deps, Dep, at_, Is] at hD
              obtain ⟨hd0, hd1⟩ := hD
              go_simp
              exact hK _ _ (Grew.refl _) rfl
            refine ⟨fun a_ wx hR hD K hK => ?_, ?_⟩
            · have hG : Grew wr wx := (Grew.drew _).trans hR
              simp [Deps, Dep, at_, Is] at hD
              have e_ := pw_cell_below hG C15.out
              go_simp
              exact hK _ _ (Grew.refl _) rfl
            refine ⟨fun a_ wx hR hD K hK => ?_, ?_⟩
            · have hG : Grew wr wx := (Grew.drew _).trans hR
              simp [Deps, Dep, at_, Is] at hD
              go_simp
              exact hK _ _ (Grew.refl _) rfl
            trivial
          · show EndHold _ _ _ _ _ _ _
            refine end_all (xs := [_, _, _, _, _, _, _, _, _, _, _, _, _, _, _, _]) ⟨rfl, rfl, rfl, rfl, rfl, rfl, rfl, rfl, rfl, rfl, rfl, rfl, rfl, rfl, rfl, rfl, trivial⟩ ?_
            rintro w5 hR1 -
            refine ⟨?_⟩
            have hG_w5 : Grew wr w5 := (Grew.drew _).trans hR1
            clear hR1
            simp only [Act.put, List.setIfInBounds_toArray, List.set_cons_succ, List.set_cons_zero, dropN, putEach]
            go_wp2_with fail
            have C2' := Lib.hid (pw_cell_below hG_w5 C2.out)
            have g1 := shr_10 x2
            have g2 := xor_w (rotW_lt 17 b2) (rotW_lt 19 b2)
            have g3 := xor_w (xorW_lt (rotW_lt 17 b2) (rotW_lt 19 b2)) (shrW_lt 10 b2)
            apply region_grew [Is _, Is _, Is _, Is _, Is _, Is _, Is _, Is _, Is _, Is _, Is _, Is _, Is _, Is _, Is _, Is _] [([(9, none)], none), ([(73, some 0)], none), ([(7, none), (74, some 1)], none), ([(75, some 2)], none), ([(76, some 3)], none), ([(9, none)], none), ([(78, some 5)], none), ([(7, none), (79, some 6)], none), ([(80, some 7)], none), ([(81, some 8)], none), ([(77, some 4), (82, some 9)], none), ([(9, none)], none), ([(84, some 11)], none), ([(7, none), (85, some 12)], none), ([(86, some 13)], none), ([(87, some 14)], none)] [(73, 0), (74, 1), (75, 2), (76, 3), (77, 4), (78, 5), (79, 6), (80, 7), (81, 8), (82, 9), (83, 10), (84, 11), (85, 12), (86, 13), (87, 14), (88, 15)] rfl (by kernel_rfl) (by kernel_rfl) (show Stable Grew _ from ⟨Is.stable _, Is.stable _, Is.stable _, Is.stable _, Is.stable _, Is.stable _, Is.stable _, Is.stable _, Is.stable _, Is.stable _, Is.stable _, Is.stable _, Is.stable _, Is.stable _, Is.stable _, Is.stable _, trivial⟩)
            · show OpsHold _ _ _ _ _ _ _ _ _
              refine ⟨fun a_ wx hR hD K hK => ?_, ?_⟩
              · have hG : Grew w5 wx := (Grew.drew _).trans hR
                simp [Deps, Dep, at_, Is] at hD
                go_simp
                exact hK _ _ (Grew.refl _) rfl
              refine ⟨fun a_ wx hR hD K hK => ?_, ?_⟩
              · have hG : Grew w5 wx := (Grew.drew _).trans hR
                simp [Deps, Dep, at_, Is] at hD
                go_simp
                exact hK _ _ (Grew.refl _) rfl
              refine ⟨fun a_ wx hR hD K hK => ?_, ?_⟩
              · have hG : Grew w5 wx := (Grew.drew _).trans hR
                simp [Deps, Dep, at_, Is] at hD
                obtain ⟨hd0, hd1⟩ := hD
                go_simp
                exact hK _ _ (Grew.refl _) rfl
              refine ⟨fun a_ wx hR hD K hK => ?_, ?_⟩
              · have hG : Grew w5 wx := (Grew.drew _).trans hR
                simp [Deps, Dep, at_, Is] at hD
                have e_ := pw_cell_below hG C2'.out
                go_simp
                exact hK _ _ (Grew.refl _) rfl
              refine ⟨fun a_ wx hR hD K hK => ?_, ?_⟩
              · have hG : Grew w5 wx := (Grew.drew _).trans hR
                simp [Deps, Dep, at_, Is] at hD
                go_simp
                have hcn := rturn_n x2 17 17 rfl b2 (by omega) (by omega) wx
                with_reducible refine hcn.mono ?_
                clear hcn
                rintro e wy ⟨v, rfl, hv, hg⟩
                exact hK _ _ hg hv
              refine ⟨fun a_ wx hR hD K hK => ?_, ?_⟩
              · have hG : Grew w5 wx := (Grew.drew _).trans hR
                simp [Deps, Dep, at_, Is] at hD
                go_simp
                exact hK _ _ (Grew.refl _) rfl
              refine ⟨fun a_ wx hR hD K hK => ?_, ?_⟩
              · have hG : Grew w5 wx := (Grew.drew _).trans hR
                simp [Deps, Dep, at_, Is] at hD
                go_simp
                exact hK _ _ (Grew.refl _) rfl
              refine ⟨fun a_ wx hR hD K hK => ?_, ?_⟩
              · have hG : Grew w5 wx := (Grew.drew _).trans hR
                simp [Deps, Dep, at_, Is] at hD
                obtain ⟨hd0, hd1⟩ := hD
                go_simp
                exact hK _ _ (Grew.refl _) rfl
              refine ⟨fun a_ wx hR hD K hK => ?_, ?_⟩
              · have hG : Grew w5 wx := (Grew.drew _).trans hR
                simp [Deps, Dep, at_, Is] at hD
                have e_ := pw_cell_below hG C2'.out
                go_simp
                exact hK _ _ (Grew.refl _) rfl
              refine ⟨fun a_ wx hR hD K hK => ?_, ?_⟩
              · have hG : Grew w5 wx := (Grew.drew _).trans hR
                simp [Deps, Dep, at_, Is] at hD
                go_simp
                have hcn := rturn_n x2 19 19 rfl b2 (by omega) (by omega) wx
                with_reducible refine hcn.mono ?_
                clear hcn
                rintro e wy ⟨v, rfl, hv, hg⟩
                exact hK _ _ hg hv
              refine ⟨fun a_ wx hR hD K hK => ?_, ?_⟩
              · have hG : Grew w5 wx := (Grew.drew _).trans hR
                simp [Deps, Dep, at_, Is] at hD
                obtain ⟨hd0, hd1⟩ := hD
                go_simp
                exact hK _ _ (Grew.refl _) rfl
              refine ⟨fun a_ wx hR hD K hK => ?_, ?_⟩
              · have hG : Grew w5 wx := (Grew.drew _).trans hR
                simp [Deps, Dep, at_, Is] at hD
                go_simp
                exact hK _ _ (Grew.refl _) rfl
              refine ⟨fun a_ wx hR hD K hK => ?_, ?_⟩
              · have hG : Grew w5 wx := (Grew.drew _).trans hR
                simp [Deps, Dep, at_, Is] at hD
                go_simp
                exact hK _ _ (Grew.refl _) rfl
              refine ⟨fun a_ wx hR hD K hK => ?_, ?_⟩
              · have hG : Grew w5 wx := (Grew.drew _).trans hR
                simp [Deps, Dep, at_, Is] at hD
                obtain ⟨hd0, hd1⟩ := hD
                go_simp
                exact hK _ _ (Grew.refl _) rfl
              refine ⟨fun a_ wx hR hD K hK => ?_, ?_⟩
              · have hG : Grew w5 wx := (Grew.drew _).trans hR
                simp [Deps, Dep, at_, Is] at hD
                have e_ := pw_cell_below hG C2'.out
                go_simp
                exact hK _ _ (Grew.refl _) rfl
              refine ⟨fun a_ wx hR hD K hK => ?_, ?_⟩
              · have hG : Grew w5 wx := (Grew.drew _).trans hR
                simp [Deps, Dep, at_, Is] at hD
                go_simp
                exact hK _ _ (Grew.refl _) rfl
              trivial
            · show EndHold _ _ _ _ _ _ _
              refine end_all (xs := [_, _, _, _, _, _, _, _, _, _, _, _, _, _, _, _]) ⟨rfl, rfl, rfl, rfl, rfl, rfl, rfl, rfl, rfl, rfl, rfl, rfl, rfl, rfl, rfl, rfl, trivial⟩ ?_
              rintro w6 hR1 -
              refine ⟨?_⟩
              have hG_w6 : Grew w5 w6 := (Grew.drew _).trans hR1
              clear hR1
              simp only [Act.put, List.setIfInBounds_toArray, List.set_cons_succ, List.set_cons_zero, dropN, putEach]
              go_wp2_with fail
              have C16' := Lib.hid (pw_cell_below (hG_w5.trans hG_w6) C16.out)
              have C7' := Lib.hid (pw_cell_below (hG_w5.trans hG_w6) C7.out)
              have a1 := add_w x16 x7
              have a2 := add_w (addW x16 x7) (xorW (xorW (rotW x15 7) (rotW x15 18)) (shrW x15 3))
              have a3 := add_w (addW (addW x16 x7) (xorW (xorW (rotW x15 7) (rotW x15 18)) (shrW x15 3))) (xorW (xorW (rotW x2 17) (rotW x2 19)) (shrW x2 10))
              apply region_grew [Is _, Is _, Is _, Is _, Is _, Is _, Is _, Is _, Is _, Is _, Is _, Is _, Is _, Is _] [([(9, none)], none), ([(9, none)], none), ([(91, some 1)], none), ([(7, none), (92, some 2)], none), ([(93, some 3)], none), ([(9, none)], none), ([(95, some 5)], none), ([(7, none), (96, some 6)], none), ([(97, some 7)], none), ([(94, some 4), (98, some 8)], none), ([(10, none)], none), ([(99, some 9), (100, some 10)], none), ([(11, none)], none), ([(101, some 11), (102, some 12)], none)] [(90, 0), (91, 1), (92, 2), (93, 3), (94, 4), (95, 5), (96, 6), (97, 7), (98, 8), (99, 9), (100, 10), (101, 11), (102, 12), (103, 13)] rfl (by kernel_rfl) (by kernel_rfl) (show Stable Grew _ from ⟨Is.stable _, Is.stable _, Is.stable _, Is.stable _, Is.stable _, Is.stable _, Is.stable _, Is.stable _, Is.stable _, Is.stable _, Is.stable _, Is.stable _, Is.stable _, Is.stable _, trivial⟩)
              · show OpsHold _ _ _ _ _ _ _ _ _
                refine ⟨fun a_ wx hR hD K hK => ?_, ?_⟩
                · have hG : Grew w6 wx := (Grew.drew _).trans hR
                  simp [Deps, Dep, at_, Is] at hD
                  go_simp
                  exact hK _ _ (Grew.refl _) rfl
                refine ⟨fun a_ wx hR hD K hK => ?_, ?_⟩
                · have hG : Grew w6 wx := (Grew.drew _).trans hR
                  simp [Deps, Dep, at_, Is] at hD
                  go_simp
                  exact hK _ _ (Grew.refl _) rfl
                refine ⟨fun a_ wx hR hD K hK => ?_, ?_⟩
                · have hG : Grew w6 wx := (Grew.drew _).trans hR
                  simp [Deps, Dep, at_, Is] at hD
                  go_simp
                  exact hK _ _ (Grew.refl _) rfl
                refine ⟨fun a_ wx hR hD K hK => ?_, ?_⟩
                · have hG : Grew w6 wx := (Grew.drew _).trans hR
                  simp [Deps, Dep, at_, Is] at hD
                  obtain ⟨hd0, hd1⟩ := hD
                  go_simp
                  exact hK _ _ (Grew.refl _) rfl
                refine ⟨fun a_ wx hR hD K hK => ?_, ?_⟩
                · have hG : Grew w6 wx := (Grew.drew _).trans hR
                  simp [Deps, Dep, at_, Is] at hD
                  have e_ := pw_cell_below hG C16'.out
                  go_simp
                  exact hK _ _ (Grew.refl _) rfl
                refine ⟨fun a_ wx hR hD K hK => ?_, ?_⟩
                · have hG : Grew w6 wx := (Grew.drew _).trans hR
                  simp [Deps, Dep, at_, Is] at hD
                  go_simp
                  exact hK _ _ (Grew.refl _) rfl
                refine ⟨fun a_ wx hR hD K hK => ?_, ?_⟩
                · have hG : Grew w6 wx := (Grew.drew _).trans hR
                  simp [Deps, Dep, at_, Is] at hD
                  go_simp
                  exact hK _ _ (Grew.refl _) rfl
                refine ⟨fun a_ wx hR hD K hK => ?_, ?_⟩
                · have hG : Grew w6 wx := (Grew.drew _).trans hR
                  simp [Deps, Dep, at_, Is] at hD
                  obtain ⟨hd0, hd1⟩ := hD
                  go_simp
                  exact hK _ _ (Grew.refl _) rfl
                refine ⟨fun a_ wx hR hD K hK => ?_, ?_⟩
                · have hG : Grew w6 wx := (Grew.drew _).trans hR
                  simp [Deps, Dep, at_, Is] at hD
                  have e_ := pw_cell_below hG C7'.out
                  go_simp
                  exact hK _ _ (Grew.refl _) rfl
                refine ⟨fun a_ wx hR hD K hK => ?_, ?_⟩
                · have hG : Grew w6 wx := (Grew.drew _).trans hR
                  simp [Deps, Dep, at_, Is] at hD
                  obtain ⟨hd0, hd1⟩ := hD
                  go_simp
                  exact hK _ _ (Grew.refl _) rfl
                refine ⟨fun a_ wx hR hD K hK => ?_, ?_⟩
                · have hG : Grew w6 wx := (Grew.drew _).trans hR
                  simp [Deps, Dep, at_, Is] at hD
                  go_simp
                  exact hK _ _ (Grew.refl _) rfl
                refine ⟨fun a_ wx hR hD K hK => ?_, ?_⟩
                · have hG : Grew w6 wx := (Grew.drew _).trans hR
                  simp [Deps, Dep, at_, Is] at hD
                  obtain ⟨hd0, hd1⟩ := hD
                  go_simp
                  exact hK _ _ (Grew.refl _) rfl
                refine ⟨fun a_ wx hR hD K hK => ?_, ?_⟩
                · have hG : Grew w6 wx := (Grew.drew _).trans hR
                  simp [Deps, Dep, at_, Is] at hD
                  go_simp
                  exact hK _ _ (Grew.refl _) rfl
                refine ⟨fun a_ wx hR hD K hK => ?_, ?_⟩
                · have hG : Grew w6 wx := (Grew.drew _).trans hR
                  simp [Deps, Dep, at_, Is] at hD
                  obtain ⟨hd0, hd1⟩ := hD
                  go_simp
                  exact hK _ _ (Grew.refl _) rfl
                trivial
              · show EndHold _ _ _ _ _ _ _
                refine end_all (xs := [_, _, _, _, _, _, _, _, _, _, _, _, _, _]) ⟨rfl, rfl, rfl, rfl, rfl, rfl, rfl, rfl, rfl, rfl, rfl, rfl, rfl, rfl, trivial⟩ ?_
                rintro w7 hR1 -
                refine ⟨?_⟩
                have hG_w7 : Grew w6 w7 := (Grew.drew _).trans hR1
                clear hR1
                simp only [Act.put, List.setIfInBounds_toArray, List.set_cons_succ, List.set_cons_zero, dropN, putEach]
                have HM7 := Lib.hid (HM.out.grew ((hG_w5.trans hG_w6).trans hG_w7))
                have c1 := HM7.out.b2.at_ t
                rw [cells_get _ _ (by rw [arr_len _ (by rw [ws_len]; omega)]; omega)] at c1
                have c2 := HM7.out.b2.fz t
                go_wp2_with fail
                go_roundw
                case rel =>
                  refine ⟨t + 1, by go_num, by omega, by omega, ?_⟩
                  have h := HM7.out.set2 t (addW (addW (addW x16 x7) (sg0 x15)) (sg1 x2))
                  rw [← HN.out] at h
                  have hx4 : (arr64 (ws l t)).set t (wnext (ws l t) t) = arr64 (ws l (t + 1)) := by
                    have := arr_setN (ws l t) (by rw [ws_len]; omega) (wnext (ws l t) t)
                    rw [ws_len] at this
                    rw [this]; simp only [ws]; rw [if_neg h16]
                  rw [hx4, HN.out] at h
                  exact h
                case measure => simp [intOf]; omega
        · have d1 : decide ((t : Int) < 64) = false := decide_eq_false (by omega)
          obtain rfl : t = 64 := by omega
          have hx64 : (arr64 (ws l 64)) = ws l 64 := by unfold arr64; rw [ws_len]; simp
          rw [hx64] at hm
          have hxl := ws_len l 64
          obtain ⟨x, hx⟩ : ∃ x, x = ws l 64 := ⟨_, rfl⟩
          rw [← hx] at hm hxl
          have hok := St.of_ok hsw
          obtain ⟨S0, hS0⟩ : ∃ S0, S0 = St.of s := ⟨_, rfl⟩
          have hsS : s = S0.list := by rw [hS0]; exact (St.of_list s hsl).symm
          rw [← hS0] at hok
          have HM := Lib.hid hm
          have H0 := Lib.hid hm.b0
          have HX := Lib.hid hx
          have HS := Lib.hid hS0
          have HSS := Lib.hid hsS
          have HXL := Lib.hid hxl
          have HKL := Lib.hid hkl
          have HSL := Lib.hid hsl
          clear hm hx hS0 hxl hkl hx64 hsl hl hsS
          go_wp2_with (first
            | refine wpList_load_blk H0.out (by rfl) 91 (.tmp 4) (by rfl) (by rfl) _ Try.underlying91 (by rfl) (by rw [wcells_len, HSL.out]; kernel_rfl) ?_
            | refine wpList_store_blk (c := wcells s) (Blk.new _ 91 (wcells (List.replicate 8 0))) (by rfl) 91 (.tmp 12) (.tmp 105) (by rfl) (by rfl) (by rfl) (by rw [wcells_len, HSL.out]; kernel_rfl) (by rw [wcells_len, wcells_len, HSL.out]; rfl) (wcells_one _) ?_)
          obtain ⟨gz, hgz⟩ : ∃ gz, gz = wr.heap.size := ⟨_, rfl⟩
          have hz0 : MixZ w ks s x S0.list gz ((wr.alloc (.cells (wcells (List.replicate 8 0)).toArray 91)).setRow gz (wcells s).toArray) := by
            have h1 : MixZ w ks s x (List.replicate 8 0) gz (wr.alloc (.cells (wcells (List.replicate 8 0)).toArray 91)) := ⟨HM.out.grew (Grew.alloc _ _), by rw [hgz]; exact Blk.new _ _ _, by rw [hgz]; exact HM.out.b2.lt⟩
            have h2 := h1.setz s
            rw [← HSS.out]
            exact h2
          rw [← hgz]
          try rw [show ((64 : Nat) : Int) = 64 from rfl]
          obtain ⟨W2, hW2⟩ : ∃ W2, W2 = ((wr.alloc (.cells (wcells (List.replicate 8 0)).toArray 91)).setRow gz (wcells s).toArray) := ⟨_, rfl⟩
          rw [← hW2] at hz0
          simp only [zeros8]
          rw [← hW2]
          clear hW2 H0 hgz
          go_loopw [13] (fun iv wq => ∃ t : Nat, iv = .int .i64 (t : Int) ∧ t ≤ 64 ∧ MixZ w ks s x (rn ks x t S0).list gz wq) (fun iv _ => 64 - (intOf iv).toNat)
          case atStart => exact ⟨0, rfl, by omega, hz0⟩
          case round =>
            obtain ⟨t, rfl, ht, hmq⟩ := hrel
            clear hz0
            by_cases hlt : t < 64
            · have d1 : decide ((t : Int) < 64) = true := decide_eq_true (by omega)
              have i1 : (t : Int) < 64 := by omega
              have hokt := rn_ok hok (ks := ks) (ws := x) t
              have hst : rn ks x (t + 1) S0 = rstep (ks.getD t 0) (x.getD t 0) (rn ks x t S0) := rfl
              have ck := hmq.m.bk.at_ t
              rw [cells_get _ _ (by rw [HKL.out]; omega)] at ck
              have cx := hmq.m.b2.at_ t
              rw [cells_get _ _ (by rw [HXL.out]; omega)] at cx
              obtain ⟨k, hk⟩ : ∃ k, k = ks.getD t 0 := ⟨_, rfl⟩
              obtain ⟨y, hy⟩ : ∃ y, y = x.getD t 0 := ⟨_, rfl⟩
              rw [← hk] at ck hst
              rw [← hy] at cx hst
              obtain ⟨S, hS⟩ : ∃ S, S = rn ks x t S0 := ⟨_, rfl⟩
              rw [← hS] at hokt hst hmq
              obtain ⟨a, b, c', d, e, f, g, hh⟩ := S
              obtain ⟨ba, bb, bc, bd, be, bf, bg, bh⟩ := hokt
              simp only [] at ba bb bc bd be bf bg bh ⊢
              have D0 := Lib.hid (show wr.cell? ⟨gz, 0, none⟩ = some (.int .u32 (a : Int)) from by rw [hmq.bz.at_]; rfl)
              have D1 := Lib.hid (show wr.cell? ⟨gz, 1, none⟩ = some (.int .u32 (b : Int)) from by rw [hmq.bz.at_]; rfl)
              have D2 := Lib.hid (show wr.cell? ⟨gz, 2, none⟩ = some (.int .u32 (c' : Int)) from by rw [hmq.bz.at_]; rfl)
              have D3 := Lib.hid (show wr.cell? ⟨gz, 3, none⟩ = some (.int .u32 (d : Int)) from by rw [hmq.bz.at_]; rfl)
              have D4 := Lib.hid (show wr.cell? ⟨gz, 4, none⟩ = some (.int .u32 (e : Int)) from by rw [hmq.bz.at_]; rfl)
              have D5 := Lib.hid (show wr.cell? ⟨gz, 5, none⟩ = some (.int .u32 (f : Int)) from by rw [hmq.bz.at_]; rfl)
              have D6 := Lib.hid (show wr.cell? ⟨gz, 6, none⟩ = some (.int .u32 (g : Int)) from by rw [hmq.bz.at_]; rfl)
              have D7 := Lib.hid (show wr.cell? ⟨gz, 7, none⟩ = some (.int .u32 (hh : Int)) from by rw [hmq.bz.at_]; rfl)
              have HST := Lib.hid hst
              have CK := Lib.hid ck
              have CX := Lib.hid cx
              have HM := Lib.hid hmq
              clear hst ck cx hmq hk hy hS
              have q0 := notr be
              have q1 := xor_w (rotW_lt 6 be) (rotW_lt 11 be)
              have q2 := xor_w (xorW_lt (rotW_lt 6 be) (rotW_lt 11 be)) (rotW_lt 25 be)
              have q3 := add_w hh (xorW (xorW (rotW e 6) (rotW e 11)) (rotW e 25))
              have q4 := and_w be bf
              have q5 := and_w (notW_lt e) bg
              have q6 := xor_w (andW_lt f be) (andW_lt g (notW_lt e))
              obtain ⟨z1, hz1⟩ : ∃ z, z = addW hh (xorW (xorW (rotW e 6) (rotW e 11)) (rotW e 25)) := ⟨_, rfl⟩
              rw [← hz1] at q3
              obtain ⟨z2, hz2⟩ : ∃ z, z = xorW (andW e f) (andW (notW e) g) := ⟨_, rfl⟩
              rw [← hz2] at q6
              have q7 := add_w z1 z2
              have q8 := add_w (addW z1 z2) k
              have q9 := add_w (addW (addW z1 z2) k) y
              have HZ1 := Lib.hid hz1
              have HZ2 := Lib.hid hz2
              clear hz1 hz2
              go_wp2_with fail
              apply region_grew [Is _, Is _, Is _, Is _, Is _, Is _, Is _, Is _, Is _, Is _, Is _, Is _, Is _, Is _, Is _, Is _, Is _, Is _, Is _, Is _, Is _, Is _, Is _, Is _, Is _, Is _, Is _, Is _, Is _, Is _, Is _, Is _, Is _, Is _] [([(12, none)], none), ([(110, some 0)], none), ([(12, none)], none), ([(112, some 2)], none), ([(113, some 3)], none), ([(12, none)], none), ([(115, some 5)], none), ([(116, some 6)], none), ([(114, some 4), (117, some 7)], none), ([(12, none)], none), ([(119, some 9)], none), ([(120, some 10)], none), ([(118, some 8), (121, some 11)], none), ([(111, some 1), (122, some 12)], none), ([(12, none)], none), ([(124, some 14)], none), ([(12, none)], none), ([(126, some 16)], none), ([(125, some 15), (127, some 17)], none), ([(12, none)], none), ([(129, some 19)], none), ([(130, some 20)], none), ([(12, none)], none), ([(132, some 22)], none), ([(131, some 21), (133, some 23)], none), ([(128, some 18), (134, some 24)], none), ([(123, some 13), (135, some 25)], none), ([(13, none)], none), ([(3, none), (137, some 27)], none), ([(138, some 28)], none), ([(136, some 26), (139, some 29)], none), ([(13, none)], none), ([(7, none), (141, some 31)], none), ([(142, some 32)], none)] [(110, 0), (111, 1), (112, 2), (113, 3), (114, 4), (115, 5), (116, 6), (117, 7), (118, 8), (119, 9), (120, 10), (121, 11), (122, 12), (123, 13), (124, 14), (125, 15), (126, 16), (127, 17), (128, 18), (129, 19), (130, 20), (131, 21), (132, 22), (133, 23), (134, 24), (135, 25), (136, 26), (137, 27), (138, 28), (139, 29), (140, 30), (141, 31), (142, 32), (143, 33)] rfl (by kernel_rfl) (by kernel_rfl) (show Stable Grew _ from ⟨Is.stable _, Is.stable _, Is.stable _, Is.stable _, Is.stable _, Is.stable _, Is.stable _, Is.stable _, Is.stable _, Is.stable _, Is.stable _, Is.stable _, Is.stable _, Is.stable _, Is.stable _, Is.stable _, Is.stable _, Is.stable _, Is.stable _, Is.stable _, Is.stable _, Is.stable _, Is.stable _, Is.stable _, Is.stable _, Is.stable _, Is.stable _, Is.stable _, Is.stable _, Is.stable _, Is.stable _, Is.stable _, Is.stable _, Is.stable _, trivial⟩)
              · show OpsHold _ _ _ _ _ _ _ _ _
                refine ⟨fun a_ wx hR hD K hK => ?_, ?_⟩
                · have hG : Grew wr wx := (Grew.drew _).trans hR
                  simp [Deps, Dep, at_, Is] at hD
                  go_simp
                  exact hK _ _ (Grew.refl _) rfl
                refine ⟨fun a_ wx hR hD K hK => ?_, ?_⟩
                · have hG : Grew wr wx := (Grew.drew _).trans hR
                  simp [Deps, Dep, at_, Is] at hD
                  have e_ := pw_cell_below hG D7.out
                  go_simp
                  exact hK _ _ (Grew.refl _) rfl
                refine ⟨fun a_ wx hR hD K hK => ?_, ?_⟩
                · have hG : Grew wr wx := (Grew.drew _).trans hR
                  simp [Deps, Dep, at_, Is] at hD
                  go_simp
                  exact hK _ _ (Grew.refl _) rfl
                refine ⟨fun a_ wx hR hD K hK => ?_, ?_⟩
                · have hG : Grew wr wx := (Grew.drew _).trans hR
                  simp [Deps, Dep, at_, Is] at hD
                  have e_ := pw_cell_below hG D4.out
                  go_simp
                  exact hK _ _ (Grew.refl _) rfl
                refine ⟨fun a_ wx hR hD K hK => ?_, ?_⟩
                · have hG : Grew wr wx := (Grew.drew _).trans hR
                  simp [Deps, Dep, at_, Is] at hD
                  go_simp
                  have hcn := rturn_n e 6 6 rfl be (by omega) (by omega) wx
                  with_reducible refine hcn.mono ?_
                  clear hcn
                  rintro e wy ⟨v, rfl, hv, hg⟩
                  exact hK _ _ hg hv
                refine ⟨fun a_ wx hR hD K hK => ?_, ?_⟩
                · have hG : Grew wr wx := (Grew.drew _).trans hR
                  simp [Deps, Dep, at_, Is] at hD
                  go_simp
                  exact hK _ _ (Grew.refl _) rfl
                refine ⟨fun a_ wx hR hD K hK => ?_, ?_⟩
                · have hG : Grew wr wx := (Grew.drew _).trans hR
                  simp [Deps, Dep, at_, Is] at hD
                  have e_ := pw_cell_below hG D4.out
                  go_simp
                  exact hK _ _ (Grew.refl _) rfl
                refine ⟨fun a_ wx hR hD K hK => ?_, ?_⟩
                · have hG : Grew wr wx := (Grew.drew _).trans hR
                  simp [Deps, Dep, at_, Is] at hD
                  go_simp
                  have hcn := rturn_n e 11 11 rfl be (by omega) (by omega) wx
                  with_reducible refine hcn.mono ?_
                  clear hcn
                  rintro e wy ⟨v, rfl, hv, hg⟩
                  exact hK _ _ hg hv
                refine ⟨fun a_ wx hR hD K hK => ?_, ?_⟩
                · have hG : Grew wr wx := (Grew.drew _).trans hR
                  simp [Deps, Dep, at_, Is] at hD
                  obtain ⟨hd0, hd1⟩ := hD
                  go_simp
                  exact hK _ _ (Grew.refl _) rfl
                refine ⟨fun a_ wx hR hD K hK => ?_, ?_⟩
                · have hG : Grew wr wx := (Grew.drew _).trans hR
                  simp [Deps, Dep, at_, Is] at hD
                  go_simp
                  exact hK _ _ (Grew.refl _) rfl
                refine ⟨fun a_ wx hR hD K hK => ?_, ?_⟩
                · have hG : Grew wr wx := (Grew.drew _).trans hR
                  simp [Deps, Dep, at_, Is] at hD
                  have e_ := pw_cell_below hG D4.out
                  go_simp
                  exact hK _ _ (Grew.refl _) rfl
                refine ⟨fun a_ wx hR hD K hK => ?_, ?_⟩
                · have hG : Grew wr wx := (Grew.drew _).trans hR
                  simp [Deps, Dep, at_, Is] at hD
                  go_simp
                  have hcn := rturn_n e 25 25 rfl be (by omega) (by omega) wx
                  with_reducible refine hcn.mono ?_
                  clear hcn
                  rintro e wy ⟨v, rfl, hv, hg⟩
                  exact hK _ _ hg hv
                refine ⟨fun a_ wx hR hD K hK => ?_, ?_⟩
                · have hG : Grew wr wx := (Grew.drew _).trans hR
                  simp [Deps, Dep, at_, Is] at hD
                  obtain ⟨hd0, hd1⟩ := hD
                  go_simp
                  exact hK _ _ (Grew.refl _) rfl
                refine ⟨fun a_ wx hR hD K hK => ?_, ?_⟩
                · have hG : Grew wr wx := (Grew.drew _).trans hR
                  simp [Deps, Dep, at_, Is] at hD
                  obtain ⟨hd0, hd1⟩ := hD
                  go_simp
                  exact hK _ _ (Grew.refl _) rfl
                refine ⟨fun a_ wx hR hD K hK => ?_, ?_⟩
                · have hG : Grew wr wx := (Grew.drew _).trans hR
                  simp [Deps, Dep, at_, Is] at hD
                  go_simp
                  exact hK _ _ (Grew.refl _) rfl
                refine ⟨fun a_ wx hR hD K hK => ?_, ?_⟩
                · have hG : Grew wr wx := (Grew.drew _).trans hR
                  simp [Deps, Dep, at_, Is] at hD
                  have e_ := pw_cell_below hG D4.out
                  go_simp
                  exact hK _ _ (Grew.refl _) rfl
                refine ⟨fun a_ wx hR hD K hK => ?_, ?_⟩
                · have hG : Grew wr wx := (Grew.drew _).trans hR
                  simp [Deps, Dep, at_, Is] at hD
                  go_simp
                  exact hK _ _ (Grew.refl _) rfl
                refine ⟨fun a_ wx hR hD K hK => ?_, ?_⟩
                · have hG : Grew wr wx := (Grew.drew _).trans hR
                  simp [Deps, Dep, at_, Is] at hD
                  have e_ := pw_cell_below hG D5.out
                  go_simp
                  exact hK _ _ (Grew.refl _) rfl
                refine ⟨fun a_ wx hR hD K hK => ?_, ?_⟩
                · have hG : Grew wr wx := (Grew.drew _).trans hR
                  simp [Deps, Dep, at_, Is] at hD
                  obtain ⟨hd0, hd1⟩ := hD
                  go_simp
                  exact hK _ _ (Grew.refl _) rfl
                refine ⟨fun a_ wx hR hD K hK => ?_, ?_⟩
                · have hG : Grew wr wx := (Grew.drew _).trans hR
                  simp [Deps, Dep, at_, Is] at hD
                  go_simp
                  exact hK _ _ (Grew.refl _) rfl
                refine ⟨fun a_ wx hR hD K hK => ?_, ?_⟩
                · have hG : Grew wr wx := (Grew.drew _).trans hR
                  simp [Deps, Dep, at_, Is] at hD
                  have e_ := pw_cell_below hG D4.out
                  go_simp
                  exact hK _ _ (Grew.refl _) rfl
                refine ⟨fun a_ wx hR hD K hK => ?_, ?_⟩
                · have hG : Grew wr wx := (Grew.drew _).trans hR
                  simp [Deps, Dep, at_, Is] at hD
                  go_simp
                  exact hK _ _ (Grew.refl _) rfl
                refine ⟨fun a_ wx hR hD K hK => ?_, ?_⟩
                · have hG : Grew wr wx := (Grew.drew _).trans hR
                  simp [Deps, Dep, at_, Is] at hD
                  go_simp
                  exact hK _ _ (Grew.refl _) rfl
                refine ⟨fun a_ wx hR hD K hK => ?_, ?_⟩
                · have hG : Grew wr wx := (Grew.drew _).trans hR
                  simp [Deps, Dep, at_, Is] at hD
                  have e_ := pw_cell_below hG D6.out
                  go_simp
                  exact hK _ _ (Grew.refl _) rfl
                refine ⟨fun a_ wx hR hD K hK => ?_, ?_⟩
                · have hG : Grew wr wx := (Grew.drew _).trans hR
                  simp [Deps, Dep, at_, Is] at hD
                  obtain ⟨hd0, hd1⟩ := hD
                  go_simp
                  exact hK _ _ (Grew.refl _) rfl
                refine ⟨fun a_ wx hR hD K hK => ?_, ?_⟩
                · have hG : Grew wr wx := (Grew.drew _).trans hR
                  simp [Deps, Dep, at_, Is] at hD
                  obtain ⟨hd0, hd1⟩ := hD
                  go_simp
                  exact hK _ _ (Grew.refl _) rfl
                refine ⟨fun a_ wx hR hD K hK => ?_, ?_⟩
                · have hG : Grew wr wx := (Grew.drew _).trans hR
                  simp [Deps, Dep, at_, Is] at hD
                  obtain ⟨hd0, hd1⟩ := hD
                  go_simp
                  exact hK _ _ (Grew.refl _) rfl
                refine ⟨fun a_ wx hR hD K hK => ?_, ?_⟩
                · have hG : Grew wr wx := (Grew.drew _).trans hR
                  simp [Deps, Dep, at_, Is] at hD
                  go_simp
                  exact hK _ _ (Grew.refl _) rfl
                refine ⟨fun a_ wx hR hD K hK => ?_, ?_⟩
                · have hG : Grew wr wx := (Grew.drew _).trans hR
                  simp [Deps, Dep, at_, Is] at hD
                  obtain ⟨hd0, hd1⟩ := hD
                  go_simp
                  exact hK _ _ (Grew.refl _) rfl
                refine ⟨fun a_ wx hR hD K hK => ?_, ?_⟩
                · have hG : Grew wr wx := (Grew.drew _).trans hR
                  simp [Deps, Dep, at_, Is] at hD
                  have e_ := pw_cell_below hG CK.out
                  go_simp
                  exact hK _ _ (Grew.refl _) rfl
                refine ⟨fun a_ wx hR hD K hK => ?_, ?_⟩
                · have hG : Grew wr wx := (Grew.drew _).trans hR
                  simp [Deps, Dep, at_, Is] at hD
                  obtain ⟨hd0, hd1⟩ := hD
                  go_simp
                  exact hK _ _ (Grew.refl _) rfl
                refine ⟨fun a_ wx hR hD K hK => ?_, ?_⟩
                · have hG : Grew wr wx := (Grew.drew _).trans hR
                  simp [Deps, Dep, at_, Is] at hD
                  go_simp
                  exact hK _ _ (Grew.refl _) rfl
                refine ⟨fun a_ wx hR hD K hK => ?_, ?_⟩
                · have hG : Grew wr wx := (Grew.drew _).trans hR
                  simp [Deps, Dep, at_, Is] at hD
                  obtain ⟨hd0, hd1⟩ := hD
                  go_simp
                  exact hK _ _ (Grew.refl _) rfl
                refine ⟨fun a_ wx hR hD K hK => ?_, ?_⟩
                · have hG : Grew wr wx := (Grew.drew _).trans hR
                  simp [Deps, Dep, at_, Is] at hD
                  have e_ := pw_cell_below hG CX.out
                  go_simp
                  exact hK _ _ (Grew.refl _) rfl
                trivial
              · show EndHold _ _ _ _ _ _ _
                refine end_all (xs := [_, _, _, _, _, _, _, _, _, _, _, _, _, _, _, _, _, _, _, _, _, _, _, _, _, _, _, _, _, _, _, _, _, _]) ⟨rfl, rfl, rfl, rfl, rfl, rfl, rfl, rfl, rfl, rfl, rfl, rfl, rfl, rfl, rfl, rfl, rfl, rfl, rfl, rfl, rfl, rfl, rfl, rfl, rfl, rfl, rfl, rfl, rfl, rfl, rfl, rfl, rfl, rfl, trivial⟩ ?_
                rintro w6 hR1 -
                refine ⟨?_⟩
                have hG_w6 : Grew wr w6 := (Grew.drew _).trans hR1
                clear hR1
                simp only [Act.put, List.setIfInBounds_toArray, List.set_cons_succ, List.set_cons_zero, dropN, putEach]
                go_wp2_with fail
                clear q0 q1 q2 q3 q4 q5 q6 q7 q8 q9 CK CX
                have r1 := xor_w (rotW_lt 2 ba) (rotW_lt 13 ba)
                have r2 := xor_w (xorW_lt (rotW_lt 2 ba) (rotW_lt 13 ba)) (rotW_lt 22 ba)
                have r3 := and_w ba bb
                have r4 := and_w ba bc
                have r5 := and_w bb bc
                have r6 := xor_w (andW_lt b ba) (andW_lt c' ba)
                have r7 := xor_w (xorW_lt (andW_lt b ba) (andW_lt c' ba)) (andW_lt c' bb)
                obtain ⟨y1, hy1⟩ : ∃ y, y = xorW (xorW (rotW a 2) (rotW a 13)) (rotW a 22) := ⟨_, rfl⟩
                obtain ⟨y2, hy2⟩ : ∃ y, y = xorW (xorW (andW a b) (andW a c')) (andW b c') := ⟨_, rfl⟩
                rw [← hy1] at r2
                rw [← hy2] at r7
                obtain ⟨u, hu⟩ : ∃ u, u = addW (addW (addW z1 z2) k) y := ⟨_, rfl⟩
                rw [← hu]
                have HU := Lib.hid (show u = uW ⟨a, b, c', d, e, f, g, hh⟩ k y from by rw [hu, HZ1.out, HZ2.out]; rfl)
                have HV := Lib.hid (show addW y1 y2 = vW ⟨a, b, c', d, e, f, g, hh⟩ from by rw [hy1, hy2]; rfl)
                have r8 := add_w y1 y2
                have r9 := add_w u (addW y1 y2)
                have r10 := add_w d u
                have E0 := Lib.hid (pw_cell_below hG_w6 D0.out)
                have E1 := Lib.hid (pw_cell_below hG_w6 D1.out)
                have E2 := Lib.hid (pw_cell_below hG_w6 D2.out)
                clear hu hy1 hy2 HZ1 HZ2
                apply region_grew [Is _, Is _, Is _, Is _, Is _, Is _, Is _, Is _, Is _, Is _, Is _, Is _, Is _, Is _, Is _, Is _, Is _, Is _, Is _, Is _, Is _, Is _, Is _, Is _, Is _, Is _, Is _, Is _] [([(12, none)], none), ([(145, some 0)], none), ([(146, some 1)], none), ([(12, none)], none), ([(148, some 3)], none), ([(149, some 4)], none), ([(147, some 2), (150, some 5)], none), ([(12, none)], none), ([(152, some 7)], none), ([(153, some 8)], none), ([(151, some 6), (154, some 9)], none), ([(12, none)], none), ([(156, some 11)], none), ([(12, none)], none), ([(158, some 13)], none), ([(157, some 12), (159, some 14)], none), ([(12, none)], none), ([(161, some 16)], none), ([(12, none)], none), ([(163, some 18)], none), ([(162, some 17), (164, some 19)], none), ([(160, some 15), (165, some 20)], none), ([(12, none)], none), ([(167, some 22)], none), ([(12, none)], none), ([(169, some 24)], none), ([(168, some 23), (170, some 25)], none), ([(166, some 21), (171, some 26)], none)] [(145, 0), (146, 1), (147, 2), (148, 3), (149, 4), (150, 5), (151, 6), (152, 7), (153, 8), (154, 9), (155, 10), (156, 11), (157, 12), (158, 13), (159, 14), (160, 15), (161, 16), (162, 17), (163, 18), (164, 19), (165, 20), (166, 21), (167, 22), (168, 23), (169, 24), (170, 25), (171, 26), (172, 27)] rfl (by kernel_rfl) (by kernel_rfl) (show Stable Grew _ from ⟨Is.stable _, Is.stable _, Is.stable _, Is.stable _, Is.stable _, Is.stable _, Is.stable _, Is.stable _, Is.stable _, Is.stable _, Is.stable _, Is.stable _, Is.stable _, Is.stable _, Is.stable _, Is.stable _, Is.stable _, Is.stable _, Is.stable _, Is.stable _, Is.stable _, Is.stable _, Is.stable _, Is.stable _, Is.stable _, Is.stable _, Is.stable _, Is.stable _, trivial⟩)
                · show OpsHold _ _ _ _ _ _ _ _ _
                  refine ⟨fun a_ wx hR hD K hK => ?_, ?_⟩
                  · have hG : Grew w6 wx := (Grew.drew _).trans hR
                    simp [Deps, Dep, at_, Is] at hD
                    go_simp
                    exact hK _ _ (Grew.refl _) rfl
                  refine ⟨fun a_ wx hR hD K hK => ?_, ?_⟩
                  · have hG : Grew w6 wx := (Grew.drew _).trans hR
                    simp [Deps, Dep, at_, Is] at hD
                    have e_ := pw_cell_below hG E0.out
                    go_simp
                    exact hK _ _ (Grew.refl _) rfl
                  refine ⟨fun a_ wx hR hD K hK => ?_, ?_⟩
                  · have hG : Grew w6 wx := (Grew.drew _).trans hR
                    simp [Deps, Dep, at_, Is] at hD
                    go_simp
                    have hcn := rturn_n a 2 2 rfl ba (by omega) (by omega) wx
                    with_reducible refine hcn.mono ?_
                    clear hcn
                    rintro e wy ⟨v, rfl, hv, hg⟩
                    exact hK _ _ hg hv
                  refine ⟨fun a_ wx hR hD K hK => ?_, ?_⟩
                  · have hG : Grew w6 wx := (Grew.drew _).trans hR
                    simp [Deps, Dep, at_, Is] at hD
                    go_simp
                    exact hK _ _ (Grew.refl _) rfl
                  refine ⟨fun a_ wx hR hD K hK => ?_, ?_⟩
                  · have hG : Grew w6 wx := (Grew.drew _).trans hR
                    simp [Deps, Dep, at_, Is] at hD
                    have e_ := pw_cell_below hG E0.out
                    go_simp
                    exact hK _ _ (Grew.refl _) rfl
                  refine ⟨fun a_ wx hR hD K hK => ?_, ?_⟩
                  · have hG : Grew w6 wx := (Grew.drew _).trans hR
                    simp [Deps, Dep, at_, Is] at hD
                    go_simp
                    have hcn := rturn_n a 13 13 rfl ba (by omega) (by omega) wx
                    with_reducible refine hcn.mono ?_
                    clear hcn
                    rintro e wy ⟨v, rfl, hv, hg⟩
                    exact hK _ _ hg hv
                  refine ⟨fun a_ wx hR hD K hK => ?_, ?_⟩
                  · have hG : Grew w6 wx := (Grew.drew _).trans hR
                    simp [Deps, Dep, at_, Is] at hD
                    obtain ⟨hd0, hd1⟩ := hD
                    go_simp
                    exact hK _ _ (Grew.refl _) rfl
                  refine ⟨fun a_ wx hR hD K hK => ?_, ?_⟩
                  · have hG : Grew w6 wx := (Grew.drew _).trans hR
                    simp [Deps, Dep, at_, Is] at hD
                    go_simp
                    exact hK _ _ (Grew.refl _) rfl
                  refine ⟨fun a_ wx hR hD K hK => ?_, ?_⟩
                  · have hG : Grew w6 wx := (Grew.drew _).trans hR
                    simp [Deps, Dep, at_, Is] at hD
                    have e_ := pw_cell_below hG E0.out
                    go_simp
                    exact hK _ _ (Grew.refl _) rfl
                  refine ⟨fun a_ wx hR hD K hK => ?_, ?_⟩
                  · have hG : Grew w6 wx := (Grew.drew _).trans hR
                    simp [Deps, Dep, at_, Is] at hD
                    go_simp
                    have hcn := rturn_n a 22 22 rfl ba (by omega) (by omega) wx
                    with_reducible refine hcn.mono ?_
                    clear hcn
                    rintro e wy ⟨v, rfl, hv, hg⟩
                    exact hK _ _ hg hv
                  refine ⟨fun a_ wx hR hD K hK => ?_, ?_⟩
                  · have hG : Grew w6 wx := (Grew.drew _).trans hR
                    simp [Deps, Dep, at_, Is] at hD
                    obtain ⟨hd0, hd1⟩ := hD
                    go_simp
                    exact hK _ _ (Grew.refl _) rfl
                  refine ⟨fun a_ wx hR hD K hK => ?_, ?_⟩
                  · have hG : Grew w6 wx := (Grew.drew _).trans hR
                    simp [Deps, Dep, at_, Is] at hD
                    go_simp
                    exact hK _ _ (Grew.refl _) rfl
                  refine ⟨fun a_ wx hR hD K hK => ?_, ?_⟩
                  · have hG : Grew w6 wx := (Grew.drew _).trans hR
                    simp [Deps, Dep, at_, Is] at hD
                    have e_ := pw_cell_below hG E0.out
                    go_simp
                    exact hK _ _ (Grew.refl _) rfl
                  refine ⟨fun a_ wx hR hD K hK => ?_, ?_⟩
                  · have hG : Grew w6 wx := (Grew.drew _).trans hR
                    simp [Deps, Dep, at_, Is] at hD
                    go_simp
                    exact hK _ _ (Grew.refl _) rfl
                  refine ⟨fun a_ wx hR hD K hK => ?_, ?_⟩
                  · have hG : Grew w6 wx := (Grew.drew _).trans hR
                    simp [Deps, Dep, at_, Is] at hD
                    have e_ := pw_cell_below hG E1.out
                    go_simp
                    exact hK _ _ (Grew.refl _) rfl
                  refine ⟨fun a_ wx hR hD K hK => ?_, ?_⟩
                  · have hG : Grew w6 wx := (Grew.drew _).trans hR
                    simp [Deps, Dep, at_, Is] at hD
                    obtain ⟨hd0, hd1⟩ := hD
                    go_simp
                    exact hK _ _ (Grew.refl _) rfl
                  refine ⟨fun a_ wx hR hD K hK => ?_, ?_⟩
                  · have hG : Grew w6 wx := (Grew.drew _).trans hR
                    simp [Deps, Dep, at_, Is] at hD
                    go_simp
                    exact hK _ _ (Grew.refl _) rfl
                  refine ⟨fun a_ wx hR hD K hK => ?_, ?_⟩
                  · have hG : Grew w6 wx := (Grew.drew _).trans hR
                    simp [Deps, Dep, at_, Is] at hD
                    have e_ := pw_cell_below hG E0.out
                    go_simp
                    exact hK _ _ (Grew.refl _) rfl
                  refine ⟨fun a_ wx hR hD K hK => ?_, ?_⟩
                  · have hG : Grew w6 wx := (Grew.drew _).trans hR
                    simp [Deps, Dep, at_, Is] at hD
                    go_simp
                    exact hK _ _ (Grew.refl _) rfl
                  refine ⟨fun a_ wx hR hD K hK => ?_, ?_⟩
                  · have hG : Grew w6 wx := (Grew.drew _).trans hR
                    simp [Deps, Dep, at_, Is] at hD
                    have e_ := pw_cell_below hG E2.out
                    go_simp
                    exact hK _ _ (Grew.refl _) rfl
                  refine ⟨fun a_ wx hR hD K hK => ?_, ?_⟩
                  · have hG : Grew w6 wx := (Grew.drew _).trans hR
                    simp [Deps, Dep, at_, Is] at hD
                    obtain ⟨hd0, hd1⟩ := hD
                    go_simp
                    exact hK _ _ (Grew.refl _) rfl
                  refine ⟨fun a_ wx hR hD K hK => ?_, ?_⟩
                  · have hG : Grew w6 wx := (Grew.drew _).trans hR
                    simp [Deps, Dep, at_, Is] at hD
                    obtain ⟨hd0, hd1⟩ := hD
                    go_simp
                    exact hK _ _ (Grew.refl _) rfl
                  refine ⟨fun a_ wx hR hD K hK => ?_, ?_⟩
                  · have hG : Grew w6 wx := (Grew.drew _).trans hR
                    simp [Deps, Dep, at_, Is] at hD
                    go_simp
                    exact hK _ _ (Grew.refl _) rfl
                  refine ⟨fun a_ wx hR hD K hK => ?_, ?_⟩
                  · have hG : Grew w6 wx := (Grew.drew _).trans hR
                    simp [Deps, Dep, at_, Is] at hD
                    have e_ := pw_cell_below hG E1.out
                    go_simp
                    exact hK _ _ (Grew.refl _) rfl
                  refine ⟨fun a_ wx hR hD K hK => ?_, ?_⟩
                  · have hG : Grew w6 wx := (Grew.drew _).trans hR
                    simp [Deps, Dep, at_, Is] at hD
                    go_simp
                    exact hK _ _ (Grew.refl _) rfl
                  refine ⟨fun a_ wx hR hD K hK => ?_, ?_⟩
                  · have hG : Grew w6 wx := (Grew.drew _).trans hR
                    simp [Deps, Dep, at_, Is] at hD
                    have e_ := pw_cell_below hG E2.out
                    go_simp
                    exact hK _ _ (Grew.refl _) rfl
                  refine ⟨fun a_ wx hR hD K hK => ?_, ?_⟩
                  · have hG : Grew w6 wx := (Grew.drew _).trans hR
                    simp [Deps, Dep, at_, Is] at hD
                    obtain ⟨hd0, hd1⟩ := hD
                    go_simp
                    exact hK _ _ (Grew.refl _) rfl
                  refine ⟨fun a_ wx hR hD K hK => ?_, ?_⟩
                  · have hG : Grew w6 wx := (Grew.drew _).trans hR
                    simp [Deps, Dep, at_, Is] at hD
                    obtain ⟨hd0, hd1⟩ := hD
                    go_simp
                    exact hK _ _ (Grew.refl _) rfl
                  trivial
                · show EndHold _ _ _ _ _ _ _
                  refine end_all (xs := [_, _, _, _, _, _, _, _, _, _, _, _, _, _, _, _, _, _, _, _, _, _, _, _, _, _, _, _]) ⟨rfl, rfl, rfl, rfl, rfl, rfl, rfl, rfl, rfl, rfl, rfl, rfl, rfl, rfl, rfl, rfl, rfl, rfl, rfl, rfl, rfl, rfl, rfl, rfl, rfl, rfl, rfl, rfl, trivial⟩ ?_
                  rintro w7 hR1 -
                  refine ⟨?_⟩
                  have hG_w7 : Grew w6 w7 := (Grew.drew _).trans hR1
                  clear hR1
                  simp only [Act.put, List.setIfInBounds_toArray, List.set_cons_succ, List.set_cons_zero, dropN, putEach]
                  have hGG := hG_w6.trans hG_w7
                  have F0 := pw_cell_below hGG D0.out
                  have F1 := pw_cell_below hGG D1.out
                  have F2 := pw_cell_below hGG D2.out
                  have F3 := pw_cell_below hGG D3.out
                  have F4 := pw_cell_below hGG D4.out
                  have F5 := pw_cell_below hGG D5.out
                  have F6 := pw_cell_below hGG D6.out
                  have HM7 := Lib.hid (HM.out.grew hGG)
                  clear D0 D1 D2 D3 D4 D5 D6 D7 E0 E1 E2 HM
                  go_wp2_with (refine wpList_store_blk (c := wcells [addW u (addW y1 y2), a, b, c', addW d u, e, f, g]) HM7.out.bz (by rfl) 91 (.tmp 12) (.tmp 193) (by rfl) (by rfl) (by rfl) (by rw [wcells_len]; kernel_rfl) (by rw [wcells_len, wcells_len]; rfl) (wcells_one _) ?_)
                  go_roundw
                  case rel =>
                    refine ⟨t + 1, by go_num, by omega, ?_⟩
                    rw [HST.out]
                    have h := HM7.out.setz [addW u (addW y1 y2), a, b, c', addW d u, e, f, g]
                    rw [HV.out, HU.out] at h ⊢
                    exact h
                  case measure => simp [intOf]; omega
            · have d1 : decide ((t : Int) < 64) = false := decide_eq_false (by omega)
              obtain rfl : t = 64 := by omega
              obtain ⟨z, hz⟩ : ∃ z, z = (rn ks x 64 S0).list := ⟨_, rfl⟩
              have hzl : z.length = 8 := by rw [hz]; rfl
              rw [← hz] at hmq
              have HZ := Lib.hid hz
              have HZL := Lib.hid hzl
              clear hz hzl
              have hs0 : sumTo s z 0 = s := sumTo_0 s z HSL.out
              have hm2 : MixZ w ks (sumTo s z 0) x z gz wr := by rw [hs0]; exact hmq
              clear hs0 hmq
              go_wp2_with fail
              try rw [show ((64 : Nat) : Int) = 64 from rfl]
              go_loopw [16] (fun iv wq => ∃ i : Nat, iv = .int .i64 (i : Int) ∧ i ≤ 8 ∧ MixZ w ks (sumTo s z i) x z gz wq) (fun iv _ => 8 - (intOf iv).toNat)
              case atStart => exact ⟨0, rfl, by omega, hm2⟩
              case round =>
                obtain ⟨i, rfl, hi, hmi⟩ := hrel
                clear hm2
                by_cases hi8 : i < 8
                · have d1 : decide ((i : Int) < 8) = true := decide_eq_true (by omega)
                  have i1 : (i : Int) < 8 := by omega
                  have c1 := hmi.m.b0.at_ i
                  rw [cells_get _ _ (by rw [sumTo_len]; omega), sumTo_at _ _ _ hi8] at c1
                  have cz := hmi.bz.at_ i
                  rw [cells_get _ _ (by rw [HZL.out]; omega)] at cz
                  have q1 := add_w (s.getD i 0) (z.getD i 0)
                  obtain ⟨si, hsi⟩ : ∃ si, si = s.getD i 0 := ⟨_, rfl⟩
                  obtain ⟨zi, hzi⟩ : ∃ zi, zi = z.getD i 0 := ⟨_, rfl⟩
                  rw [← hzi] at cz q1
                  rw [← hsi] at c1 q1
                  have HSI := Lib.hid hsi
                  have HZI := Lib.hid hzi
                  have HM := Lib.hid hmi
                  have C1 := Lib.hid c1
                  have CZ := Lib.hid cz
                  clear hsi hzi hmi c1 cz
                  go_wp2_with fail
                  apply region_grew [Is _, Is _, Is _, Is _, Is _, Is _, Is _, Is _] [([(16, none)], none), ([(16, none)], none), ([(4, none), (199, some 1)], none), ([(200, some 2)], none), ([(16, none)], none), ([(12, none), (202, some 4)], none), ([(203, some 5)], none), ([(201, some 3), (204, some 6)], none)] [(198, 0), (199, 1), (200, 2), (201, 3), (202, 4), (203, 5), (204, 6), (205, 7)] rfl (by kernel_rfl) (by kernel_rfl) (show Stable Grew _ from ⟨Is.stable _, Is.stable _, Is.stable _, Is.stable _, Is.stable _, Is.stable _, Is.stable _, Is.stable _, trivial⟩)
                  · show OpsHold _ _ _ _ _ _ _ _ _
                    refine ⟨fun a_ wx hR hD K hK => ?_, ?_⟩
                    · have hG : Grew wr wx := (Grew.drew _).trans hR
                      simp [Deps, Dep, at_, Is] at hD
                      go_simp
                      exact hK _ _ (Grew.refl _) rfl
                    refine ⟨fun a_ wx hR hD K hK => ?_, ?_⟩
                    · have hG : Grew wr wx := (Grew.drew _).trans hR
                      simp [Deps, Dep, at_, Is] at hD
                      go_simp
                      exact hK _ _ (Grew.refl _) rfl
                    refine ⟨fun a_ wx hR hD K hK => ?_, ?_⟩
                    · have hG : Grew wr wx := (Grew.drew _).trans hR
                      simp [Deps, Dep, at_, Is] at hD
                      obtain ⟨hd0, hd1⟩ := hD
                      go_simp
                      exact hK _ _ (Grew.refl _) rfl
                    refine ⟨fun a_ wx hR hD K hK => ?_, ?_⟩
                    · have hG : Grew wr wx := (Grew.drew _).trans hR
                      simp [Deps, Dep, at_, Is] at hD
                      have e_ := pw_cell_below hG C1.out
                      go_simp
                      exact hK _ _ (Grew.refl _) rfl
                    refine ⟨fun a_ wx hR hD K hK => ?_, ?_⟩
                    · have hG : Grew wr wx := (Grew.drew _).trans hR
                      simp [Deps, Dep, at_, Is] at hD
                      go_simp
                      exact hK _ _ (Grew.refl _) rfl
                    refine ⟨fun a_ wx hR hD K hK => ?_, ?_⟩
                    · have hG : Grew wr wx := (Grew.drew _).trans hR
                      simp [Deps, Dep, at_, Is] at hD
                      obtain ⟨hd0, hd1⟩ := hD
                      go_simp
                      exact hK _ _ (Grew.refl _) rfl
                    refine ⟨fun a_ wx hR hD K hK => ?_, ?_⟩
                    · have hG : Grew wr wx := (Grew.drew _).trans hR
                      simp [Deps, Dep, at_, Is] at hD
                      have e_ := pw_cell_below hG CZ.out
                      go_simp
                      exact hK _ _ (Grew.refl _) rfl
                    refine ⟨fun a_ wx hR hD K hK => ?_, ?_⟩
                    · have hG : Grew wr wx := (Grew.drew _).trans hR
                      simp [Deps, Dep, at_, Is] at hD
                      obtain ⟨hd0, hd1⟩ := hD
                      go_simp
                      exact hK _ _ (Grew.refl _) rfl
                    trivial
                  · show EndHold _ _ _ _ _ _ _
                    refine end_all (xs := [_, _, _, _, _, _, _, _]) ⟨rfl, rfl, rfl, rfl, rfl, rfl, rfl, rfl, trivial⟩ ?_
                    rintro w6 hR1 -
                    refine ⟨?_⟩
                    have hG_w6 : Grew wr w6 := (Grew.drew _).trans hR1
                    clear hR1
                    simp only [Act.put, List.setIfInBounds_toArray, List.set_cons_succ, List.set_cons_zero, dropN, putEach]
                    have HM6 := Lib.hid (HM.out.grew hG_w6)
                    have c1 := HM6.out.m.b0.at_ i
                    rw [cells_get _ _ (by rw [sumTo_len]; omega), sumTo_at _ _ _ hi8, ← HSI.out] at c1
                    have c2 := HM6.out.m.b0.fz i
                    go_wp2_with fail
                    go_roundw
                    case rel =>
                      refine ⟨i + 1, by go_num, by omega, ?_⟩
                      have h := HM6.out.set0 i (addW si zi)
                      rw [HSI.out, HZI.out, sumTo_succ _ _ _ hi8] at h
                      rw [HSI.out, HZI.out]
                      exact h
                    case measure => simp [intOf]; omega
                · have d1 : decide ((i : Int) < 8) = false := decide_eq_false (by omega)
                  obtain rfl : i = 8 := by omega
                  rw [show sumTo s z 8 = mixL ks s l from by rw [HZ.out, HX.out, HS.out]; rfl] at hmi
                  have H0 := Lib.hid hmi.m.b0
                  have H1 := Lib.hid hmi.m.b1
                  have HG := Lib.hid hmi.m.gr
                  clear hmi
                  go_wp2_with (first
                    | refine wpList_load_blk H0.out (by rfl) 91 (.tmp 4) (by rfl) (by rfl) _ Try.underlying91 (by rfl) (by rw [wcells_len, mixL_len]; kernel_rfl) ?_
                    | refine wpList_store_blk (c := wcells (mixL ks s l)) H1.out (by rfl) 91 (.tmp 6) (.tmp 207) (by rfl) (by rfl) (by rfl) (by rw [wcells_len, mixL_len]; kernel_rfl) (by rw [wcells_len, wcells_len, mixL_len]; rfl) (wcells_one _) ?_)
                  refine bodyPost_ret (results_blk rfl _ (H1.out.setRow (wcells (mixL ks s l))) _ (by rfl) Try.underlying91 (by rfl) (by rw [wcells_len, mixL_len]; kernel_rfl)) rfl ?_
                  exact ⟨_, rfl, rfl, Grew.setRow HG.out (by omega) _⟩
end Go.Proofs.Ytimcafohmahapaa.F

-- ShaL
namespace Go.Proofs.Ytimcafohmahapaa.F
open Go Go.RowKit Go.Proofs.YtimcafohmahapaaW.PrintWords Go.Proofs.YtimcafohmahapaaW.PrintLast Go.Proofs.YtimcafohmahapaaW.PrintMore Go.Proofs.YtimcafohmahapaaR
set_option linter.unusedSimpArgs false
set_option linter.unusedVariables false
set_option maxRecDepth 100000
set_option maxHeartbeats 2000000 in
theorem words_c (w : World) : Calls Try.prog 56 #[] w (Tells w (Is (.agg (wcells kL).toArray))) := by
  go_enter Try.func56, Try.ntmps56
  go_wp2_with fail
  rw [zeros64]
  have hb0 : Blk ((w.alloc (.cells (wcells (arr64 [])).toArray 89)).alloc (.cells (wcells (arr64 [])).toArray 89)) w.heap.size 89 (wcells (arr64 [])) := (Blk.new w _ _).grew (Grew.alloc _ _)
  have hb1 : Blk ((w.alloc (.cells (wcells (arr64 [])).toArray 89)).alloc (.cells (wcells (arr64 [])).toArray 89)) (w.heap.size + 1) 89 (wcells (arr64 [])) := by simpa using Blk.new (w.alloc (.cells (wcells (arr64 [])).toArray 89)) 89 (wcells (arr64 []))
  have hgw : Grew w ((w.alloc (.cells (wcells (arr64 [])).toArray 89)).alloc (.cells (wcells (arr64 [])).toArray 89)) := (Grew.alloc _ _).trans (Grew.alloc _ _)
  obtain ⟨W, hW⟩ : ∃ W, W = ((w.alloc (.cells (wcells (arr64 [])).toArray 89)).alloc (.cells (wcells (arr64 [])).toArray 89)) := ⟨_, rfl⟩
  rw [← hW] at hb0 hb1 hgw ⊢
  clear hW
  have hk2 : kAt 2 = [] := rfl
  rw [← hk2] at hb1
  go_loopw [2, 3] (fun nv pv wr => ∃ p : Nat, 2 ≤ p ∧ p ≤ 312 ∧ pv = .int .u32 (p : Int) ∧ nv = .int .i64 ((cnt p : Nat) : Int) ∧ Blk wr w.heap.size 89 (wcells (arr64 [])) ∧ Blk wr (w.heap.size + 1) 89 (wcells (arr64 (kAt p))) ∧ Grew w wr) (fun _ pv _ => 312 - (intOf pv).toNat)
  case atStart => exact ⟨2, by omega, by omega, rfl, rfl, hb0, hb1, hgw⟩
  case round =>
    obtain ⟨p, h2, h312, rfl, rfl, hz, hk, hg⟩ := hrel
    have hc := cnt_low p h2 h312
    by_cases hlt : cnt p < 64
    · have d1 : decide (((cnt p : Nat) : Int) < 64) = true := decide_eq_true (by omega)
      have hp3 := hc.2.1 hlt
      have hks := kAt_succ p h2
      have hcs := cnt_succ p h2
      clear hb0 hb1 hgw hk2
      cases hw : wholeN p
      · rw [hw] at hks hcs
        rw [if_neg (by simp), List.append_nil] at hks
        rw [if_neg (by simp), Nat.add_zero] at hcs
        have HK := Lib.hid hk
        have HZ := Lib.hid hz
        have HKS := Lib.hid hks
        have HCS := Lib.hid hcs
        have hwc := rwhole_c p (by omega) wr
        rw [hw] at hwc
        have HW := Lib.hid hwc
        clear hk hz hks hcs hw hc hwc
        go_wp2_with fail
        refine HW.out.mono ?_
        rintro e w1 ⟨_, rfl, rfl, hg1⟩
        go_wp2_with fail
        go_roundw
        case rel => exact ⟨p + 1, by omega, by omega, by go_num, by rw [HCS.out, Nat.add_zero], HZ.out.grew hg1, by rw [HKS.out]; exact HK.out.grew hg1, hg.trans hg1⟩
        case measure => simp [intOf]; omega
      · rw [hw] at hks hcs
        rw [if_pos rfl] at hks hcs
        have HK := Lib.hid hk
        have HZ := Lib.hid hz
        have HKS := Lib.hid hks
        have HCS := Lib.hid hcs
        have hwc := rwhole_c p (by omega) wr
        rw [hw] at hwc
        have HW := Lib.hid hwc
        clear hk hz hks hcs hw hc hwc
        go_wp2_with fail
        refine HW.out.mono ?_
        rintro e w1 ⟨_, rfl, rfl, hg1⟩
        go_wp2_with fail
        have hrc : Calls Try.prog 57 #[.int .u32 p, .bool true] w1 (Tells w1 (Is (.int .u32 ((rootw p : Nat) : Int)))) := rroot_c p (by omega) true w1
        refine hrc.mono ?_
        rintro e w2 ⟨_, rfl, rfl, hg2⟩
        have hk2 := HK.out.grew (hg1.trans hg2)
        have hz2 := HZ.out.grew (hg1.trans hg2)
        have hlen : (arr64 (kAt p)).length = 64 := arr_len _ (by rw [kAt_len]; omega)
        have c1 := hk2.at_ (cnt p)
        rw [cells_get _ _ (by omega)] at c1
        have c2 := hk2.fz (cnt p)
        clear hrc
        go_wp2_with fail
        go_roundw
        case rel =>
          refine ⟨p + 1, by omega, by omega, by go_num, by rw [HCS.out]; simp, hz2.far (by simp) _, ?_, ((Upd.of_grew (S := fun _ => False) (hg.trans (hg1.trans hg2))).set (.inr (by simp)) _).grew (by simp)⟩
          have h5 := hk2.set (cnt p) (.int .u32 ((rootw p : Nat) : Int))
          have h6 := arr_set (kAt p) (by rw [kAt_len]; omega) (rootw p)
          rw [kAt_len] at h6
          rw [h6, ← HKS.out] at h5
          exact h5
        case measure => simp [intOf]; omega
    · have d1 : decide (((cnt p : Nat) : Int) < 64) = false := decide_eq_false (by omega)
      obtain rfl : p = 312 := hc.2.2 (by omega)
      rw [arr_kL] at hk
      have HK := Lib.hid hk
      have HZ := Lib.hid hz
      clear hk hz hc hb0 hb1 hk2 hgw
      go_wp2_with (first
        | refine wpList_load_blk HK.out (by rfl) 89 (.tmp 1) (by rfl) (by rfl) _ Try.underlying89 (by rfl) (by rw [wcells_len, kL_len]; kernel_rfl) ?_
        | refine wpList_store_blk (c := wcells kL) HZ.out (by rfl) 89 (.tmp 0) (.tmp 16) (by rfl) (by rfl) (by rfl) (by rw [wcells_len, kL_len]; kernel_rfl) (by rw [wcells_len, wcells_len, kL_len]; rfl) (wcells_one kL) ?_)
      refine bodyPost_ret (results_blk rfl _ (HZ.out.setRow (wcells kL)) _ (by rfl) Try.underlying89 (by rfl) (by rw [wcells_len, kL_len]; kernel_rfl)) rfl ?_
      exact ⟨_, rfl, rfl, Grew.setRow hg (Nat.le_refl _) _⟩
end Go.Proofs.Ytimcafohmahapaa.F

-- ShaR
namespace Go.Proofs.Ytimcafohmahapaa.F
open Go Go.RowKit Go.Proofs.YtimcafohmahapaaW.PrintWords Go.Proofs.YtimcafohmahapaaW.PrintLast Go.Proofs.YtimcafohmahapaaW.PrintMore Go.Proofs.YtimcafohmahapaaR
attribute [local go_sem] max2_int min2_int max_two min_two
set_option linter.unusedSimpArgs false
set_option linter.unusedVariables false
set_option maxRecDepth 100000
theorem str_extract (l : List Int) (a b : Nat) : (strOfNums l).extract a b = strOfNums ((l.drop a).take (b - a)) := by
  show (ByteArray.mk (l.map fun n => UInt8.ofNat n.toNat).toArray).extract a b = ByteArray.mk (((l.drop a).take (b - a)).map fun n => UInt8.ofNat n.toNat).toArray
  rw [ByteArray.extract_mk, List.map_take, List.map_drop]
/-- bytes that may be read -/
def RowV (n : Nat) (l : List Int) : World → Value → Prop := fun w v => ∃ A c, v = .slice A n c ∧ Kd.C (Kd.int .u8) w A n l
theorem RowV.stable (n : Nat) (l : List Int) : ∀ w w' v, Grew w w' → RowV n l w v → RowV n l w' v := fun _ _ _ hg ⟨A, c, h1, h2⟩ => ⟨A, c, h1, Kd.C_below h2 hg⟩
set_option maxHeartbeats 4000000 in
theorem rsum_c (w : World) (l : List Int) (hl : l.length ≤ 1000000000) (hb : ∀ y ∈ l, 0 ≤ y ∧ y < 256) :
    Calls Try.prog 48 #[.string (strOfNums l)] w (Tells w (Is (.string (strOfNums (shaL l))))) := by
  have hsz := str_size l
  obtain ⟨B, hB⟩ : ∃ B, B = strOfNums l := ⟨_, rfl⟩
  rw [← hB] at hsz ⊢
  obtain ⟨n, hn⟩ : ∃ n, n = l.length := ⟨_, rfl⟩
  rw [← hn] at hsz hl
  have HB := Lib.hid hB
  have HN := Lib.hid hn
  have HL := Lib.hid hl
  have HBB := Lib.hid hb
  have HSZ := Lib.hid hsz
  clear hB hn hl hb hsz
  go_enter Try.func48, Try.ntmps48
  go_wp2_with fail
  refine (words_c w).mono ?_
  rintro e w1 ⟨_, rfl, rfl, hg1⟩
  go_wp2_with (refine wpList_store_blk (c := wcells kL) (Blk.new _ 89 (wcells (arr64 []))) (by rfl) 89 (.tmp 3) (.tmp 10) (by rfl) (by rfl) (by rfl) (by rw [wcells_len, kL_len]; kernel_rfl) (by rw [wcells_len, wcells_len, kL_len]; rfl) (wcells_one _) ?_)
  simp only [zeros64, zeros8]
  obtain ⟨gk, hgk⟩ : ∃ gk, gk = w1.heap.size := ⟨_, rfl⟩
  have hk0 : Blk (((w1.alloc (.cells (wcells (arr64 [])).toArray 89)).setRow w1.heap.size (wcells kL).toArray).alloc (.cells (wcells (List.replicate 8 0)).toArray 91)) w1.heap.size 89 (wcells kL) := ((Blk.new w1 _ _).setRow _).grew (Grew.alloc _ _)
  have hs0 : Blk (((w1.alloc (.cells (wcells (arr64 [])).toArray 89)).setRow w1.heap.size (wcells kL).toArray).alloc (.cells (wcells (List.replicate 8 0)).toArray 91)) (w1.heap.size + 1) 91 (wcells (s0To 0)) := by
    have h := Blk.new ((w1.alloc (.cells (wcells (arr64 [])).toArray 89)).setRow w1.heap.size (wcells kL).toArray) 91 (wcells (List.replicate 8 0))
    rw [setRow_size] at h
    rw [s0To_0]
    simpa using h
  have hg0 : Grew w1 (((w1.alloc (.cells (wcells (arr64 [])).toArray 89)).setRow w1.heap.size (wcells kL).toArray).alloc (.cells (wcells (List.replicate 8 0)).toArray 91)) := (Grew.setRow (Grew.alloc _ _) (Nat.le_refl _) _).trans (Grew.alloc _ _)
  have hgw0 := Grew.trans hg1 hg0
  have hgl : w.heap.size ≤ gk := by rw [hgk]; exact hg1.size
  rw [← hgk] at hk0 hs0 hgw0 ⊢
  obtain ⟨W5, hW5⟩ : ∃ W5, W5 = (((w1.alloc (.cells (wcells (arr64 [])).toArray 89)).setRow gk (wcells kL).toArray).alloc (.cells (wcells (List.replicate 8 0)).toArray 91)) := ⟨_, rfl⟩
  rw [← hW5] at hk0 hs0 hgw0 ⊢
  clear hgk hW5 hg0 hg1
  go_loopw [5] (fun iv wq => ∃ i : Nat, iv = .int .i64 (i : Int) ∧ i ≤ 8 ∧ Blk wq gk 89 (wcells kL) ∧ Blk wq (gk + 1) 91 (wcells (s0To i)) ∧ Grew w wq) (fun iv _ => 8 - (intOf iv).toNat)
  case atStart => exact ⟨0, rfl, by omega, hk0, hs0, hgw0⟩
  case round =>
    obtain ⟨i, rfl, hi, hk, hs, hg⟩ := hrel
    clear hk0 hs0 hgw0
    by_cases hi8 : i < 8
    · have d1 : decide ((i : Int) < 8) = true := decide_eq_true (by omega)
      have i1 : (i : Int) < 8 := by omega
      obtain ⟨p, hp⟩ : ∃ p, p = primesL.getD i 0 := ⟨_, rfl⟩
      have hpl : p < 4294967296 := by rw [hp]; exact primesL_lt i
      have hpc : ∀ w, Calls Try.prog 58 #[.int .i64 (i : Int)] w (Tells w (Is (.int .u32 (p : Int)))) := fun w => by
        have h := rprime_c i w
        rw [primeI_nat i hi8, ← hp] at h
        exact h
      have hrc : ∀ w, Calls Try.prog 57 #[.int .u32 (p : Int), .bool false] w (Tells w (Is (.int .u32 ((s0w i : Nat) : Int)))) := fun w => by
        have h := rroot_c p hpl false w
        unfold s0w
        rw [← hp]
        exact h
      obtain ⟨r, hr⟩ : ∃ r, r = s0w i := ⟨_, rfl⟩
      rw [← hr] at hrc
      have HP := Lib.hid hpc
      have HQ := Lib.hid hrc
      have HK := Lib.hid hk
      have HS := Lib.hid hs
      have HRR := Lib.hid hr
      clear hpc hrc hk hs hp hr
      go_wp2_with fail
      refine (HP.out wr).mono ?_
      rintro e w5 ⟨_, rfl, rfl, hg5⟩
      go_wp2_with fail
      refine (HQ.out w5).mono ?_
      rintro e w6 ⟨_, rfl, rfl, hg6⟩
      have HS6 := Lib.hid ((HS.out.grew hg5).grew hg6)
      have HK6 := Lib.hid ((HK.out.grew hg5).grew hg6)
      have hgg := Grew.trans (Grew.trans hg hg5) hg6
      have c1 := HS6.out.at_ i
      rw [cells_get _ _ (by rw [s0To_len]; omega)] at c1
      have c2 := HS6.out.fz i
      go_wp2_with fail
      go_roundw
      case rel =>
        refine ⟨i + 1, by go_num, by omega, HK6.out.far (by simp) _, ?_, Grew.setCell_new hgg (by simp; omega) _⟩
        have h := HS6.out.set i (.int .u32 (r : Int))
        rw [wcells_set, HRR.out, s0To_succ i hi8] at h
        rw [HRR.out]
        exact h
      case measure => simp [intOf]; omega
    · have d1 : decide ((i : Int) < 8) = false := decide_eq_false (by omega)
      obtain rfl : i = 8 := by omega
      rw [s0To_8] at hs
      have hsz := HSZ.out
      have HK := Lib.hid hk
      have HS := Lib.hid hs
      have HG := Lib.hid hg
      have hrp := rpad_c n wr
      obtain ⟨P, hP⟩ : ∃ P, P = strOfNums (padL n) := ⟨_, rfl⟩
      rw [← hP] at hrp
      obtain ⟨T, hT⟩ : ∃ T, T = l ++ padL n := ⟨_, rfl⟩
      obtain ⟨TB, hTB⟩ : ∃ TB, TB = strOfNums T := ⟨_, rfl⟩
      have hz : ¬ (9223372036854775807 < B.size + P.size) := by rw [HSZ.out, hP, str_size, padL_len]; have := HL.out; unfold zN; omega
      have hap : B ++ P = TB := by rw [HB.out, hP, hTB, hT, str_append]
      obtain ⟨m, hm⟩ : ∃ m, m = T.length := ⟨_, rfl⟩
      have hts : TB.size = m := by rw [hTB, str_size, hm]
      have hTf : T = fullL l := by rw [hT, HN.out]; rfl
      have hmb : m % 64 = 0 := by rw [hm, hTf]; exact fullL_len l
      have hml : m ≤ 1000000200 := by rw [hm, hT, List.length_append, padL_len]; have := HL.out; have := HN.out; unfold zN; omega
      have hTb : ∀ y ∈ T, 0 ≤ y ∧ y < 256 := by
        intro y hy
        rw [hT] at hy
        rcases List.mem_append.1 hy with h | h
        · exact HBB.out y h
        · exact padL_bytes n y h
      have HRP := Lib.hid hrp
      have HT := Lib.hid hT
      have HM := Lib.hid hm
      have HTF := Lib.hid hTf
      have HTS := Lib.hid hts
      have HTB := Lib.hid hTb
      have HTBe := Lib.hid hTB
      clear hk hs hg hP hT hTB hm hTf hts hTb hrp
      go_wp2_with fail
      refine HRP.out.mono ?_
      rintro e w2 ⟨_, rfl, rfl, hg2⟩
      have hk2 := HK.out.grew hg2
      have hs2 := HS.out.grew hg2
      have hgw2 := Grew.trans HG.out hg2
      clear hsz HK HS HG
      go_wp2_with fail
      try rw [show ((8 : Nat) : Int) = 8 from rfl]
      go_loopw [7] (fun iv wq => ∃ j ij : Nat, iv = .int .i64 (ij : Int) ∧ ij = 64 * j ∧ ij ≤ m ∧ Blk wq gk 89 (wcells kL) ∧ Blk wq (gk + 1) 91 (wcells (after kL s0L T j)) ∧ Grew w wq) (fun iv _ => m - (intOf iv).toNat)
      case atStart => exact ⟨0, 0, rfl, rfl, by omega, hk2, hs2, hgw2⟩
      case round =>
        obtain ⟨j, ij, rfl, hij, him, hk, hs, hg⟩ := hrel
        clear hk2 hs2 hgw2
        have hts := HTS.out
        by_cases hlt : ij < m
        · have d1 : decide ((ij : Int) < (m : Int)) = true := decide_eq_true (by omega)
          obtain ⟨ij2, hij2⟩ : ∃ q, q = ij + 64 := ⟨_, rfl⟩
          have e1 : IntKind.i64.wrap ((ij : Int) + 64) = (ij2 : Int) := by rw [IntWalk.i64_in _ (by omega)]; omega
          have hle2 : ij2 ≤ m := by omega
          have hbk : (T.drop ij).take (ij2 - ij) = blkL T j := by rw [hij2, Nat.add_sub_cancel_left, hij]; rfl
          have hb64 : (blkL T j).length = 64 := by
            unfold blkL
            rw [List.length_take, List.length_drop, ← HM.out]; omega
          have hsl7 : ∀ w', Sem.run Try.prog (Instr.slice 9 (.string TB) (some (.int .i64 (ij : Int))) (some (.int .i64 (ij2 : Int))) none) w' = .ok (.string (strOfNums (blkL T j))) w' := fun w' => by
            rw [run_slice_string w' _ TB .i64 .i64 _ _ (by rfl) (by omega) (by omega) (by omega), HTBe.out, str_extract, Int.toNat_natCast, Int.toNat_natCast, hbk]
          obtain ⟨S, hS⟩ : ∃ S, S = after kL s0L T j := ⟨_, rfl⟩
          have hsl : S.length = 8 := by rw [hS]; exact after_len s0L_len _
          have hsw : words S := by rw [hS]; exact after_words s0L_words _
          have hnext : after kL s0L T (j + 1) = mixL kL S (blkL T j) := by rw [hS]; rfl
          have hbb : ∀ y ∈ blkL T j, 0 ≤ y ∧ y < 256 := fun y hy => HTB.out y (List.mem_of_mem_drop (List.mem_of_mem_take hy))
          rw [← hS] at hs
          have HK := Lib.hid hk
          have HS := Lib.hid hs
          have HG := Lib.hid hg
          have HSl := Lib.hid hsl
          have HSw := Lib.hid hsw
          have HNext := Lib.hid hnext
          have HBl := Lib.hid hbb
          have HB64 := Lib.hid hb64
          have HIJ := Lib.hid hij
          have HIJ2 := Lib.hid hij2
          clear hk hs hg hsl hsw hnext hbb hb64 hij hij2 hbk hS
          go_wp2_with fail
          clear hts
          apply region_grew [Is _, Is _, Is _, Is _, Is _, Is _, Is _] [([(3, none)], none), ([(4, none)], none), ([(6, none)], none), ([(7, none)], none), ([(7, none)], none), ([(35, some 4)], none), ([(33, some 2), (34, some 3), (36, some 5)], none)] [(31, 0), (32, 1), (33, 2), (34, 3), (35, 4), (36, 5), (37, 6)] rfl (by kernel_rfl) (by kernel_rfl) (show Stable Grew _ from ⟨Is.stable _, Is.stable _, Is.stable _, Is.stable _, Is.stable _, Is.stable _, Is.stable _, trivial⟩)
          · show OpsHold _ _ _ _ _ _ _ _ _
            refine ⟨fun a_ wx hR hD K hK => ?_, ?_⟩
            · have hG : Grew wr wx := (Grew.drew _).trans hR
              simp [Deps, Dep, at_, Is] at hD
              exact wp_load_mid 89 (.tmp 3) rfl gk 0 (eval_tmp hD) (wcells kL) _ (Blk.range0 (HK.out.grew hG)) Try.underlying89 (by rfl) (by rw [wcells_len, kL_len]; kernel_rfl) (hK _ _ (Grew.refl _) rfl)
            refine ⟨fun a_ wx hR hD K hK => ?_, ?_⟩
            · have hG : Grew wr wx := (Grew.drew _).trans hR
              simp [Deps, Dep, at_, Is] at hD
              exact wp_load_mid 91 (.tmp 4) rfl (gk + 1) 0 (eval_tmp hD) (wcells S) _ (Blk.range0 (HS.out.grew hG)) Try.underlying91 (by rfl) (by rw [wcells_len, HSl.out]; kernel_rfl) (hK _ _ (Grew.refl _) rfl)
            refine ⟨fun a_ wx hR hD K hK => ?_, ?_⟩
            · have hG : Grew wr wx := (Grew.drew _).trans hR
              simp [Deps, Dep, at_, Is] at hD
              go_simp
              exact hK _ _ (Grew.refl _) rfl
            refine ⟨fun a_ wx hR hD K hK => ?_, ?_⟩
            · have hG : Grew wr wx := (Grew.drew _).trans hR
              simp [Deps, Dep, at_, Is] at hD
              go_simp
              exact hK _ _ (Grew.refl _) rfl
            refine ⟨fun a_ wx hR hD K hK => ?_, ?_⟩
            · have hG : Grew wr wx := (Grew.drew _).trans hR
              simp [Deps, Dep, at_, Is] at hD
              go_simp
              exact hK _ _ (Grew.refl _) rfl
            refine ⟨fun a_ wx hR hD K hK => ?_, ?_⟩
            · have hG : Grew wr wx := (Grew.drew _).trans hR
              simp [Deps, Dep, at_, Is] at hD
              go_simp
              exact hK _ _ (Grew.refl _) rfl
            refine ⟨fun a_ wx hR hD K hK => ?_, ?_⟩
            · have hG : Grew wr wx := (Grew.drew _).trans hR
              simp [Deps, Dep, at_, Is] at hD
              obtain ⟨hd0, hd1, hd2⟩ := hD
              go_simp
              exact hK _ _ (Grew.refl _) rfl
            trivial
          · show EndHold _ _ _ _ _ _ _
            refine end_all (xs := [_, _, _, _, _, _, _]) ⟨rfl, rfl, rfl, rfl, rfl, rfl, rfl, trivial⟩ ?_
            rintro w5 hR1 -
            refine ⟨?_⟩
            have hG_w5 : Grew wr w5 := (Grew.drew _).trans hR1
            clear hR1
            simp only [Act.put, List.setIfInBounds_toArray, List.set_cons_succ, List.set_cons_zero, dropN, putEach]
            go_wp2_with fail
            refine (rmix_c w5 kL S (blkL T j) kL_len kL_words HSl.out HSw.out HB64.out HBl.out).mono ?_
            rintro e w6 ⟨_, rfl, rfl, hg6⟩
            have hgg := Grew.trans (Grew.trans HG.out hG_w5) hg6
            have HS5 := Lib.hid ((HS.out.grew hG_w5).grew hg6)
            have HK5 := Lib.hid ((HK.out.grew hG_w5).grew hg6)
            go_wp2_with (refine wpList_store_blk (c := wcells (mixL kL S (blkL T j))) HS5.out (by rfl) 91 (.tmp 4) (.tmp 38) (by rfl) (by rfl) (by rfl) (by rw [wcells_len, mixL_len]; kernel_rfl) (by rw [wcells_len, wcells_len, mixL_len, HSl.out]) (wcells_one _) ?_)
            go_roundw
            case rel =>
              refine ⟨j + 1, ij2, by go_num, by rw [HIJ2.out, HIJ.out]; omega, hle2, HK5.out.farRow (by omega) _, ?_, Grew.setRow hgg (by omega) _⟩
              rw [HNext.out]
              exact HS5.out.setRow _
            case measure => have := HIJ2.out; simp [intOf]; omega
        · have d1 : decide ((ij : Int) < (m : Int)) = false := decide_eq_false (by omega)
          obtain ⟨SF, hSF⟩ : ∃ SF, SF = after kL s0L T j := ⟨_, rfl⟩
          have hsl : SF.length = 8 := by rw [hSF]; exact after_len s0L_len _
          have HSw := Lib.hid (show words SF from by rw [hSF]; exact after_words s0L_words _)
          have hout : shaL l = outL SF := by
            unfold shaL
            rw [hSF, ← HTF.out, ← HM.out]
            congr 2
            omega
          rw [← hSF] at hs
          have HSl := Lib.hid hsl
          have HOut := Lib.hid hout
          have he0 : (⟨#[]⟩ : ByteArray) = strOfNums (outL (SF.take 0)) := rfl
          clear hSF hsl hout hij hk
          go_wp2_with fail
          clear hts
          go_loopw [8, 9] (fun v8 iv wq => ∃ (i : Nat) (O : ByteArray), v8 = .string O ∧ O = strOfNums (outL (SF.take i)) ∧ iv = .int .i64 (i : Int) ∧ i ≤ 8 ∧ Blk wq (gk + 1) 91 (wcells SF) ∧ Grew w wq) (fun _ iv _ => 8 - (intOf iv).toNat)
          case atStart => exact ⟨0, _, rfl, he0, rfl, by omega, hs, hg⟩
          case round =>
            obtain ⟨i, O, rfl, hO, rfl, hi, hs2, hg2⟩ := hrel
            clear hs hg he0
            by_cases hi8 : i < 8
            · have d1 : decide ((i : Int) < 8) = true := decide_eq_true (by omega)
              have i1 : (i : Int) < 8 := by omega
              have c1 := hs2.at_ i
              rw [cells_get SF i (by rw [HSl.out]; omega)] at c1
              have hsucc : outL (SF.take (i + 1)) = outL (SF.take i) ++ outW (SF.getD i 0) := outL_succ SF i (by rw [HSl.out]; omega)
              obtain ⟨y, hy⟩ : ∃ y, y = SF.getD i 0 := ⟨_, rfl⟩
              have hyl : y < 4294967296 := by rw [hy]; exact words_get (HSw.out) _
              rw [← hy] at c1 hsucc
              obtain ⟨b0, hb0⟩ : ∃ b, b = y / 16777216 % 256 := ⟨_, rfl⟩
              obtain ⟨b1, hb1⟩ : ∃ b, b = y / 65536 % 256 := ⟨_, rfl⟩
              obtain ⟨b2, hb2⟩ : ∃ b, b = y / 256 % 256 := ⟨_, rfl⟩
              obtain ⟨b3, hb3⟩ : ∃ b, b = y % 256 := ⟨_, rfl⟩
              obtain ⟨q0, hq0⟩ : ∃ q, q = y / 16777216 := ⟨_, rfl⟩
              obtain ⟨q1, hq1⟩ : ∃ q, q = y / 65536 := ⟨_, rfl⟩
              obtain ⟨q2, hq2⟩ : ∃ q, q = y / 256 := ⟨_, rfl⟩
              have k0 : IntKind.u32.wrap ((y : Int) / 16777216) = (q0 : Int) := by rw [IntWalk.u32_in _ (by omega)]; omega
              have k1 : IntKind.u32.wrap ((y : Int) / 65536) = (q1 : Int) := by rw [IntWalk.u32_in _ (by omega)]; omega
              have k2 : IntKind.u32.wrap ((y : Int) / 256) = (q2 : Int) := by rw [IntWalk.u32_in _ (by omega)]; omega
              have t1 : (q1 : Int).tmod 256 = (b1 : Int) := by rw [show (256 : Int) = ((256 : Nat) : Int) from rfl, tmod_nat, hb1, hq1]
              have t2 : (q2 : Int).tmod 256 = (b2 : Int) := by rw [show (256 : Int) = ((256 : Nat) : Int) from rfl, tmod_nat, hb2, hq2]
              have t3 : (y : Int).tmod 256 = (b3 : Int) := by rw [show (256 : Int) = ((256 : Nat) : Int) from rfl, tmod_nat, hb3]
              have g0 : IntKind.u8.wrap (q0 : Int) = (b0 : Int) := by rw [IntKind.wrap_u8]; omega
              have g1 : IntKind.u8.wrap (b1 : Int) = (b1 : Int) := by rw [IntKind.wrap_u8]; omega
              have g2 : IntKind.u8.wrap (b2 : Int) = (b2 : Int) := by rw [IntKind.wrap_u8]; omega
              have g3 : IntKind.u8.wrap (b3 : Int) = (b3 : Int) := by rw [IntKind.wrap_u8]; omega
              have hw4 : outW y = [(b0 : Int), (b1 : Int), (b2 : Int), (b3 : Int)] := by rw [hb0, hb1, hb2, hb3]; rfl
              rw [hw4] at hsucc
              obtain ⟨Q, hQ⟩ : ∃ Q, Q = strOfNums [(b0 : Int), (b1 : Int), (b2 : Int), (b3 : Int)] := ⟨_, rfl⟩
              obtain ⟨O2, hO2⟩ : ∃ O2, O2 = strOfNums (outL (SF.take (i + 1))) := ⟨_, rfl⟩
              have hadd : O ++ Q = O2 := by rw [hO, hQ, hO2, hsucc, str_append]
              have hz : ¬ (9223372036854775807 < O.size + Q.size) := by
                rw [hO, hQ, str_size, str_size, outL_len, List.length_take]; simp; omega
              have hst : ∀ w' A' c', Kd.C (Kd.int .u8) w' A' 4 [(b0 : Int), (b1 : Int), (b2 : Int), (b3 : Int)] → (convert 23 9 (.slice A' 4 c')).run Try.prog w' = .ok (.string Q) w' := fun w' A' c' h => by
                rw [hQ]; exact Kd.C_string (P := Try.prog) Try.underlying23 Try.underlying5 Try.underlying9 h
              have C1 := Lib.hid c1
              have HO2 := Lib.hid hO2
              have HST := Lib.hid hst
              have HS2 := Lib.hid hs2
              have HG2 := Lib.hid hg2
              clear c1 hO2 hst hs2 hg2 hsucc hw4 hb0 hb1 hb2 hb3 hy hO hQ hq0 hq1 hq2
              go_wp2_with fail
              apply region_grew [Is _, Is _, Is _, Is _, Is _, Is _, Is _, Is _, Is _, Is _, Is _, Is _, Is _, Is _, Is _, Is _, Is _, Is _, Is _, Is _, Is _, Is _, Is _, RowV 4 [(b0 : Int), (b1 : Int), (b2 : Int), (b3 : Int)], Is _] [([(8, none)], none), ([(9, none)], none), ([(4, none), (44, some 1)], none), ([(45, some 2)], none), ([(46, some 3)], none), ([(47, some 4)], none), ([(9, none)], none), ([(4, none), (49, some 6)], none), ([(50, some 7)], none), ([(51, some 8)], none), ([(52, some 9)], none), ([(53, some 10)], none), ([(9, none)], none), ([(4, none), (55, some 12)], none), ([(56, some 13)], none), ([(57, some 14)], none), ([(58, some 15)], none), ([(59, some 16)], none), ([(9, none)], none), ([(4, none), (61, some 18)], none), ([(62, some 19)], none), ([(63, some 20)], none), ([(64, some 21)], none), ([(48, some 5), (54, some 11), (60, some 17), (65, some 22)], none), ([(66, some 23)], none)] [(66, 23), (43, 0), (44, 1), (45, 2), (46, 3), (47, 4), (48, 5), (49, 6), (50, 7), (51, 8), (52, 9), (53, 10), (54, 11), (55, 12), (56, 13), (57, 14), (58, 15), (59, 16), (60, 17), (61, 18), (62, 19), (63, 20), (64, 21), (65, 22), (67, 24)] rfl (by kernel_rfl) (by kernel_rfl) (show Stable Grew _ from ⟨Is.stable _, Is.stable _, Is.stable _, Is.stable _, Is.stable _, Is.stable _, Is.stable _, Is.stable _, Is.stable _, Is.stable _, Is.stable _, Is.stable _, Is.stable _, Is.stable _, Is.stable _, Is.stable _, Is.stable _, Is.stable _, Is.stable _, Is.stable _, Is.stable _, Is.stable _, Is.stable _, RowV.stable _ _, Is.stable _, trivial⟩)
              · show OpsHold _ _ _ _ _ _ _ _ _
                refine ⟨fun a_ wx hR hD K hK => ?_, ?_⟩
                · have hG : Grew wr wx := (Grew.drew _).trans hR
                  simp [Deps, Dep, at_, Is] at hD
                  go_simp
                  exact hK _ _ (Grew.refl _) rfl
                refine ⟨fun a_ wx hR hD K hK => ?_, ?_⟩
                · have hG : Grew wr wx := (Grew.drew _).trans hR
                  simp [Deps, Dep, at_, Is] at hD
                  go_simp
                  exact hK _ _ (Grew.refl _) rfl
                refine ⟨fun a_ wx hR hD K hK => ?_, ?_⟩
                · have hG : Grew wr wx := (Grew.drew _).trans hR
                  simp [Deps, Dep, at_, Is] at hD
                  obtain ⟨hd0, hd1⟩ := hD
                  go_simp
                  exact hK _ _ (Grew.refl _) rfl
                refine ⟨fun a_ wx hR hD K hK => ?_, ?_⟩
                · have hG : Grew wr wx := (Grew.drew _).trans hR
                  simp [Deps, Dep, at_, Is] at hD
                  have e_ := pw_cell_below hG C1.out
                  go_simp
                  exact hK _ _ (Grew.refl _) rfl
                refine ⟨fun a_ wx hR hD K hK => ?_, ?_⟩
                · have hG : Grew wr wx := (Grew.drew _).trans hR
                  simp [Deps, Dep, at_, Is] at hD
                  go_simp
                  exact hK _ _ (Grew.refl _) rfl
                refine ⟨fun a_ wx hR hD K hK => ?_, ?_⟩
                · have hG : Grew wr wx := (Grew.drew _).trans hR
                  simp [Deps, Dep, at_, Is] at hD
                  go_simp
                  exact hK _ _ (Grew.refl _) rfl
                refine ⟨fun a_ wx hR hD K hK => ?_, ?_⟩
                · have hG : Grew wr wx := (Grew.drew _).trans hR
                  simp [Deps, Dep, at_, Is] at hD
                  go_simp
                  exact hK _ _ (Grew.refl _) rfl
                refine ⟨fun a_ wx hR hD K hK => ?_, ?_⟩
                · have hG : Grew wr wx := (Grew.drew _).trans hR
                  simp [Deps, Dep, at_, Is] at hD
                  obtain ⟨hd0, hd1⟩ := hD
                  go_simp
                  exact hK _ _ (Grew.refl _) rfl
                refine ⟨fun a_ wx hR hD K hK => ?_, ?_⟩
                · have hG : Grew wr wx := (Grew.drew _).trans hR
                  simp [Deps, Dep, at_, Is] at hD
                  have e_ := pw_cell_below hG C1.out
                  go_simp
                  exact hK _ _ (Grew.refl _) rfl
                refine ⟨fun a_ wx hR hD K hK => ?_, ?_⟩
                · have hG : Grew wr wx := (Grew.drew _).trans hR
                  simp [Deps, Dep, at_, Is] at hD
                  go_simp
                  exact hK _ _ (Grew.refl _) rfl
                refine ⟨fun a_ wx hR hD K hK => ?_, ?_⟩
                · have hG : Grew wr wx := (Grew.drew _).trans hR
                  simp [Deps, Dep, at_, Is] at hD
                  go_simp
                  exact hK _ _ (Grew.refl _) rfl
                refine ⟨fun a_ wx hR hD K hK => ?_, ?_⟩
                · have hG : Grew wr wx := (Grew.drew _).trans hR
                  simp [Deps, Dep, at_, Is] at hD
                  go_simp
                  exact hK _ _ (Grew.refl _) rfl
                refine ⟨fun a_ wx hR hD K hK => ?_, ?_⟩
                · have hG : Grew wr wx := (Grew.drew _).trans hR
                  simp [Deps, Dep, at_, Is] at hD
                  go_simp
                  exact hK _ _ (Grew.refl _) rfl
                refine ⟨fun a_ wx hR hD K hK => ?_, ?_⟩
                · have hG : Grew wr wx := (Grew.drew _).trans hR
                  simp [Deps, Dep, at_, Is] at hD
                  obtain ⟨hd0, hd1⟩ := hD
                  go_simp
                  exact hK _ _ (Grew.refl _) rfl
                refine ⟨fun a_ wx hR hD K hK => ?_, ?_⟩
                · have hG : Grew wr wx := (Grew.drew _).trans hR
                  simp [Deps, Dep, at_, Is] at hD
                  have e_ := pw_cell_below hG C1.out
                  go_simp
                  exact hK _ _ (Grew.refl _) rfl
                refine ⟨fun a_ wx hR hD K hK => ?_, ?_⟩
                · have hG : Grew wr wx := (Grew.drew _).trans hR
                  simp [Deps, Dep, at_, Is] at hD
                  go_simp
                  exact hK _ _ (Grew.refl _) rfl
                refine ⟨fun a_ wx hR hD K hK => ?_, ?_⟩
                · have hG : Grew wr wx := (Grew.drew _).trans hR
                  simp [Deps, Dep, at_, Is] at hD
                  go_simp
                  exact hK _ _ (Grew.refl _) rfl
                refine ⟨fun a_ wx hR hD K hK => ?_, ?_⟩
                · have hG : Grew wr wx := (Grew.drew _).trans hR
                  simp [Deps, Dep, at_, Is] at hD
                  go_simp
                  exact hK _ _ (Grew.refl _) rfl
                refine ⟨fun a_ wx hR hD K hK => ?_, ?_⟩
                · have hG : Grew wr wx := (Grew.drew _).trans hR
                  simp [Deps, Dep, at_, Is] at hD
                  go_simp
                  exact hK _ _ (Grew.refl _) rfl
                refine ⟨fun a_ wx hR hD K hK => ?_, ?_⟩
                · have hG : Grew wr wx := (Grew.drew _).trans hR
                  simp [Deps, Dep, at_, Is] at hD
                  obtain ⟨hd0, hd1⟩ := hD
                  go_simp
                  exact hK _ _ (Grew.refl _) rfl
                refine ⟨fun a_ wx hR hD K hK => ?_, ?_⟩
                · have hG : Grew wr wx := (Grew.drew _).trans hR
                  simp [Deps, Dep, at_, Is] at hD
                  have e_ := pw_cell_below hG C1.out
                  go_simp
                  exact hK _ _ (Grew.refl _) rfl
                refine ⟨fun a_ wx hR hD K hK => ?_, ?_⟩
                · have hG : Grew wr wx := (Grew.drew _).trans hR
                  simp [Deps, Dep, at_, Is] at hD
                  go_simp
                  exact hK _ _ (Grew.refl _) rfl
                refine ⟨fun a_ wx hR hD K hK => ?_, ?_⟩
                · have hG : Grew wr wx := (Grew.drew _).trans hR
                  simp [Deps, Dep, at_, Is] at hD
                  go_simp
                  exact hK _ _ (Grew.refl _) rfl
                refine ⟨fun a_ wx hR hD K hK => ?_, ?_⟩
                · have hG : Grew wr wx := (Grew.drew _).trans hR
                  simp [Deps, Dep, at_, Is] at hD
                  obtain ⟨hd0, hd1, hd2, hd3⟩ := hD
                  go_simp
                  exact hK _ _ (Grew.alloc _ _) ⟨_, _, rfl, (Blk.new wx 5 (nums .u8 [(b0 : Int), (b1 : Int), (b2 : Int), (b3 : Int)])).C (by simp)⟩
                refine ⟨fun a_ wx hR hD K hK => ?_, ?_⟩
                · have hG : Grew wr wx := (Grew.drew _).trans hR
                  simp [Deps, Dep, at_, Is] at hD
                  obtain ⟨A', c', hv', hC'⟩ := hD
                  have hcv := HST.out _ _ c' hC'
                  go_simp
                  exact hK _ _ (Grew.refl _) rfl
                trivial
              · show EndHold _ _ _ _ _ _ _
                intro v66
                refine end_all (xs := [_, _, _, _, _, _, _, _, _, _, _, _, _, _, _, _, _, _, _, _, _, _, _, _]) ⟨rfl, rfl, rfl, rfl, rfl, rfl, rfl, rfl, rfl, rfl, rfl, rfl, rfl, rfl, rfl, rfl, rfl, rfl, rfl, rfl, rfl, rfl, rfl, rfl, trivial⟩ ?_
                rintro w5 hR1 ⟨-, hRow⟩
                refine ⟨?_⟩
                have hG_w5 : Grew wr w5 := (Grew.drew _).trans hR1
                clear hR1
                simp only [Act.put, List.setIfInBounds_toArray, List.set_cons_succ, List.set_cons_zero, dropN, putEach]
                go_wp2_with fail
                go_roundw
                case rel => exact ⟨i + 1, _, rfl, HO2.out, by go_num, by omega, HS2.out.grew hG_w5, Grew.trans HG2.out hG_w5⟩
                case measure => simp [intOf]; omega
            · have d1 : decide ((i : Int) < 8) = false := decide_eq_false (by omega)
              obtain rfl : i = 8 := by omega
              rw [List.take_of_length_le (by rw [HSl.out]; omega), ← HOut.out] at hO
              have HO := Lib.hid hO
              clear hO
              go_wp2_with fail
              go_ret
              refine ⟨_, rfl, ?_, hg2⟩
              rw [← HO.out]
              rfl
end Go.Proofs.Ytimcafohmahapaa.F

-- MacM
namespace Go.Proofs.Ytimcafohmahapaa.F
open Go Go.RowKit Go.Proofs.YtimcafohmahapaaW.PrintWords Go.Proofs.YtimcafohmahapaaW.PrintLast Go.Proofs.YtimcafohmahapaaW.PrintMore Go.Proofs.YtimcafohmahapaaR
set_option linter.unusedSimpArgs false
set_option linter.unusedVariables false
set_option maxRecDepth 100000
def bytes8' (l : List Int) : Prop := ∀ y ∈ l, 0 ≤ y ∧ y < 256
/-- a byte with a number added bit by bit -/
def x8 (a n : Int) : Int := Go.bits .xor .u8 a n
theorem x8_byte (a n : Int) : 0 ≤ x8 a n ∧ x8 a n < 256 := by
  unfold x8 Go.bits
  simp only []
  rw [IntKind.wrap_u8]
  omega
/-- a key of at most 64 bytes -/
def keyL (k : List Int) : List Int := if 64 < k.length then shaL k else k
theorem keyL_len (k : List Int) : (keyL k).length ≤ 64 := by
  unfold keyL
  split
  · rw [shaL_len]; omega
  · omega
theorem outL_bytes (s : List Nat) : bytes8' (outL s) := by
  intro y hy
  unfold outL at hy
  obtain ⟨x, -, hx⟩ := List.mem_flatMap.1 hy
  unfold outW at hx
  simp only [List.mem_cons, List.not_mem_nil, or_false] at hx
  rcases hx with rfl | rfl | rfl | rfl <;> omega
theorem shaL_bytes (l : List Int) : bytes8' (shaL l) := outL_bytes _
theorem keyL_bytes {k : List Int} (h : bytes8' k) : bytes8' (keyL k) := by
  unfold keyL
  split
  · exact shaL_bytes k
  · exact h
/-- filled up to 64 -/
def fill64 (l : List Int) : List Int := l ++ List.replicate (64 - l.length) 0
theorem fill64_len {l : List Int} (h : l.length ≤ 64) : (fill64 l).length = 64 := by unfold fill64; rw [List.length_append, List.length_replicate]; omega
/-- the first i bytes turned -/
def xorTo (l : List Int) (n : Int) (i : Nat) : List Int := (List.range 64).map fun j => if j < i then x8 (l.getD j 0) n else l.getD j 0
theorem xorTo_len (l : List Int) (n : Int) (i : Nat) : (xorTo l n i).length = 64 := by simp [xorTo]
theorem xorTo_get (l : List Int) (n : Int) (i j : Nat) (h : j < 64) : (xorTo l n i)[j]? = some (if j < i then x8 (l.getD j 0) n else l.getD j 0) := by
  unfold xorTo
  rw [List.getElem?_map, List.getElem?_range h]; rfl
theorem xorTo_at (l : List Int) (n : Int) (i : Nat) (h : i < 64) : (xorTo l n i).getD i 0 = l.getD i 0 := by
  rw [List.getD_eq_getElem?_getD, xorTo_get l n i i h, if_neg (by omega)]; rfl
theorem xorTo_0 (l : List Int) (n : Int) (h : l.length = 64) : xorTo l n 0 = l := by
  apply List.ext_getElem?
  intro j
  by_cases hj : j < 64
  · rw [xorTo_get l n 0 j hj, if_neg (by omega), List.getElem?_eq_getElem (by omega : j < l.length), List.getD_eq_getElem?_getD, List.getElem?_eq_getElem (by omega : j < l.length)]; rfl
  · rw [List.getElem?_eq_none (by rw [xorTo_len]; omega), List.getElem?_eq_none (by omega)]
theorem xorTo_succ (l : List Int) (n : Int) (i : Nat) (h : i < 64) : (xorTo l n i).set i (x8 (l.getD i 0) n) = xorTo l n (i + 1) := by
  apply List.ext_getElem?
  intro j
  by_cases hj : j < 64
  · rw [List.getElem?_set, xorTo_len, xorTo_get l n (i + 1) j hj, xorTo_get l n i j hj]
    by_cases e : i = j
    · subst e; rw [if_pos rfl, if_pos h, if_pos (by omega)]
    · rw [if_neg e]
      by_cases h1 : j < i
      · rw [if_pos h1, if_pos (by omega)]
      · rw [if_neg h1, if_neg (by omega)]
  · rw [List.getElem?_eq_none (by rw [List.length_set, xorTo_len]; omega), List.getElem?_eq_none (by rw [xorTo_len]; omega)]
/-- a key's block -/
def turnedL (k : List Int) (n : Int) : List Int := xorTo (fill64 (keyL k)) n 64
theorem turnedL_len (k : List Int) (n : Int) : (turnedL k n).length = 64 := xorTo_len _ _ _
theorem turnedL_bytes (k : List Int) (n : Int) : bytes8' (turnedL k n) := by
  intro y hy
  unfold turnedL xorTo at hy
  obtain ⟨j, hj, rfl⟩ := List.mem_map.1 hy
  rw [if_pos (List.mem_range.1 hj)]
  exact x8_byte _ _
theorem turnedL_succ (k : List Int) (n : Int) (i : Nat) (h : i < 64) : (turnedL k n).take (i + 1) = (turnedL k n).take i ++ [x8 ((fill64 (keyL k)).getD i 0) n] := by
  rw [List.take_add_one]
  unfold turnedL
  rw [xorTo_get _ _ _ _ h, if_pos h]; rfl
/-- the seal -/
def sealL (k m : List Int) : List Int := shaL (turnedL k 92 ++ shaL (turnedL k 54 ++ m))
theorem sealL_len (k m : List Int) : (sealL k m).length = 32 := shaL_len _
theorem str_cells {l : List Int} (h : bytes8' l) : ((strOfNums l).data.toList.map fun x => Value.int .u8 (x.toNat : Int)) = nums .u8 l := by
  show ((l.map fun n => UInt8.ofNat n.toNat).map fun x => Value.int .u8 (x.toNat : Int)) = l.map fun n => Value.int .u8 n
  rw [List.map_map]
  apply List.map_congr_left
  intro n hn
  have := h n hn
  show Value.int .u8 ((UInt8.ofNat n.toNat).toNat : Int) = _
  rw [UInt8.toNat_ofNat']
  congr 1
  omega
theorem bytesOf_str' {l : List Int} (h : bytes8' l) : bytesOf (strOfNums l) = l := by
  unfold bytesOf
  show ((l.map fun n => UInt8.ofNat n.toNat).map fun x => (x.toNat : Int)) = l
  rw [List.map_map]
  conv => rhs; rw [← List.map_id l]
  apply List.map_congr_left
  intro n hn
  have := h n hn
  show ((UInt8.ofNat n.toNat).toNat : Int) = n
  rw [UInt8.toNat_ofNat']
  omega
theorem set_fill {l : List Int} (h : l.length ≤ 64) : setL (nums .u8 (List.replicate 64 0)) 0 (nums .u8 l) = nums .u8 (fill64 l) := by
  have e := setL_mid [] (nums .u8 l) (nums .u8 (List.replicate l.length 0)) (nums .u8 (List.replicate (64 - l.length) 0)) (by simp [nums])
  have e2 : nums .u8 (List.replicate 64 0) = nums .u8 (List.replicate l.length 0) ++ nums .u8 (List.replicate (64 - l.length) 0) := by
    unfold nums
    rw [← List.map_append, List.replicate_append_replicate]
    congr 2
    omega
  rw [e2]
  have e3 : nums .u8 (fill64 l) = nums .u8 l ++ nums .u8 (List.replicate (64 - l.length) 0) := by unfold nums fill64; rw [List.map_append]
  rw [e3]
  exact e
theorem wpList_copyS {P : Program} {w : World} {ops : Array Oper} {rest : List Oper} {o : Oper} {a : Act} {Q : Exit → Act → World → Prop} (hgd : o.guard = none) (d s : Operand) (t t' : TypeId)
    (ho : o.op = .call { callee := .builtin .copy, args := #[d, s], argTypes := #[t, t'] }) {v u : Value} (hd : a.eval d = v) (hs : a.eval s = u) {v' : Value} {w' : World}
    (hr : (Builtin.copy_ #[t, t'] o.type #[v, u]).run P w = .ok v' w') (h : wpList P ops Q rest (a.put o.dst v') w') : wpList P ops Q (o :: rest) a w :=
  wpList_plain hgd fun K hK => by
    unfold Oper.wp execOp
    simp only [ho, resolve, invoke, builtin, Sem.run_bind, Sem.run_pure, Result.andThen_ok, List.map_toArray, List.map_cons, List.map_nil, hd, hs, hr]
    exact hK _ _ h
end Go.Proofs.Ytimcafohmahapaa.F

-- MacT
namespace Go.Proofs.Ytimcafohmahapaa.F
open Go Go.RowKit Go.Proofs.YtimcafohmahapaaW.PrintWords Go.Proofs.YtimcafohmahapaaW.PrintLast Go.Proofs.YtimcafohmahapaaW.PrintMore Go.Proofs.YtimcafohmahapaaR
attribute [local go_sem] max2_int min2_int max_two min_two
set_option linter.unusedSimpArgs false
set_option linter.unusedVariables false
set_option maxRecDepth 100000
theorem zerosB : (nums .u8 (List.replicate 64 0)).toArray = #[Value.int IntKind.u8 0, Value.int IntKind.u8 0, Value.int IntKind.u8 0, Value.int IntKind.u8 0, Value.int IntKind.u8 0, Value.int IntKind.u8 0, Value.int IntKind.u8 0, Value.int IntKind.u8 0, Value.int IntKind.u8 0, Value.int IntKind.u8 0, Value.int IntKind.u8 0, Value.int IntKind.u8 0, Value.int IntKind.u8 0, Value.int IntKind.u8 0, Value.int IntKind.u8 0, Value.int IntKind.u8 0, Value.int IntKind.u8 0, Value.int IntKind.u8 0, Value.int IntKind.u8 0, Value.int IntKind.u8 0, Value.int IntKind.u8 0, Value.int IntKind.u8 0, Value.int IntKind.u8 0, Value.int IntKind.u8 0, Value.int IntKind.u8 0, Value.int IntKind.u8 0, Value.int IntKind.u8 0, Value.int IntKind.u8 0, Value.int IntKind.u8 0, Value.int IntKind.u8 0, Value.int IntKind.u8 0, Value.int IntKind.u8 0, Value.int IntKind.u8 0, Value.int IntKind.u8 0, Value.int IntKind.u8 0, Value.int IntKind.u8 0, Value.int IntKind.u8 0, Value.int IntKind.u8 0, Value.int IntKind.u8 0, Value.int IntKind.u8 0, Value.int IntKind.u8 0, Value.int IntKind.u8 0, Value.int IntKind.u8 0, Value.int IntKind.u8 0, Value.int IntKind.u8 0, Value.int IntKind.u8 0, Value.int IntKind.u8 0, Value.int IntKind.u8 0, Value.int IntKind.u8 0, Value.int IntKind.u8 0, Value.int IntKind.u8 0, Value.int IntKind.u8 0, Value.int IntKind.u8 0, Value.int IntKind.u8 0, Value.int IntKind.u8 0, Value.int IntKind.u8 0, Value.int IntKind.u8 0, Value.int IntKind.u8 0, Value.int IntKind.u8 0, Value.int IntKind.u8 0, Value.int IntKind.u8 0, Value.int IntKind.u8 0, Value.int IntKind.u8 0, Value.int IntKind.u8 0] := by rfl
theorem nums_get (l : List Int) (i : Nat) (h : i < l.length) : (nums .u8 l)[i]? = some (.int .u8 (l.getD i 0)) := by
  unfold nums
  rw [List.getElem?_map, List.getElem?_eq_getElem h, List.getD_eq_getElem?_getD, List.getElem?_eq_getElem h]; rfl
theorem nums_set (l : List Int) (i : Nat) (x : Int) : (nums .u8 l).set i (.int .u8 x) = nums .u8 (l.set i x) := by
  unfold nums; rw [List.map_set]
set_option maxHeartbeats 4000000 in
theorem turned_c (w : World) (k : List Int) (n : Int) (hb : bytes8' k) (hk : k.length ≤ 1000000000) :
    Calls Try.prog 46 #[.string (strOfNums k), .int .u8 n] w (Tells w (fun w' v => ∃ g, v = .slice (some ⟨g, 0, none⟩) 64 64 ∧ w.heap.size ≤ g ∧ Blk w' g 99 (nums .u8 (turnedL k n)))) := by
  have hsz := str_size k
  obtain ⟨B, hB⟩ : ∃ B, B = strOfNums k := ⟨_, rfl⟩
  rw [← hB] at hsz ⊢
  obtain ⟨nk, hnk⟩ : ∃ nk, nk = k.length := ⟨_, rfl⟩
  rw [← hnk] at hsz hk
  have hby := fun W => print_bytes (P := Try.prog) 9 23 5 Try.underlying9 Try.underlying23 Try.underlying5 B W
  obtain ⟨K, hKe⟩ : ∃ K, K = strOfNums (keyL k) := ⟨_, rfl⟩
  have hkl := keyL_len k
  have hkb := keyL_bytes hb
  have hKs : K.size = (keyL k).length := by rw [hKe, str_size]
  have hKc : (K.data.toList.map fun x => Value.int .u8 (x.toNat : Int)) = nums .u8 (keyL k) := by rw [hKe]; exact str_cells hkb
  obtain ⟨nn, hnn⟩ : ∃ nn, nn = (keyL k).length := ⟨_, rfl⟩
  rw [← hnn] at hkl hKs
  have HKS := Lib.hid hKs
  have HKC := Lib.hid hKc
  have HNN := Lib.hid hnn
  have HNK := Lib.hid hnk
  have HBe := Lib.hid hB
  have HBY := Lib.hid hb
  have HKE := Lib.hid hKe
  by_cases hbig : 64 < nk
  · have d1 : decide (64 < nk) = true := decide_eq_true hbig
    have d1' : decide (64 < (nk : Int)) = true := decide_eq_true (by omega)
    have hs := fun c (hc : nk ≤ c) => sum1_c (Lib.bytesWorld w 5 B) (some ⟨w.heap.size, 0, none⟩) c nk k (C_of (by
      have h := bytes_reads w 5 B (by rw [hsz]; omega)
      rw [hsz, hB, bytesOf_str' hb] at h
      rw [hB]; exact h)) hnk.symm hc (by omega) hb
    have hke : keyL k = shaL k := by unfold keyL; rw [if_pos (by omega)]
    rw [← hke, ← hKe] at hs
    have hcap := grownCap_ge w nk 0 5
    have HS := Lib.hid (hs _ hcap)
    have hg0 : Grew w (Lib.bytesWorld w 5 B) := bytes_below (Below.refl _ _) (Nat.le_refl _) _ _
    have HG0 := Lib.hid hg0
    rw [hsz] at hby
    clear hs hke hb hKs hKc hnn hnk hB hKe hcap hg0
    go_enter Try.func46, Try.ntmps46
    go_wp2_with fail
    refine HS.out.mono ?_
    rintro e w1 ⟨_, rfl, rfl, hg1⟩
    have hgw := Grew.trans HG0.out hg1
    have HGW := Lib.hid hgw
    obtain ⟨gB, hgB⟩ : ∃ gB, gB = w1.heap.size := ⟨_, rfl⟩
    have hgle : w.heap.size ≤ gB := by rw [hgB]; exact HGW.out.size
    have hbl : Blk (w1.alloc (.cells (nums .u8 (List.replicate 64 0)).toArray 99)) gB 99 (nums .u8 (List.replicate 64 0)) := by rw [hgB]; exact Blk.new _ _ _
    have hrun := run_copy_string (P := Try.prog) (w1.alloc (.cells (nums .u8 (List.replicate 64 0)).toArray 99)) 23 9 3 5 gB 0 64 64 K Try.underlying23 (fun _ => by rfl) (by rw [HKS.out]; exact hkl)
      (fun j hj => by rw [hbl.at_, nums_get _ _ (by rw [HKS.out] at hj; simp; omega)]; rfl) (fun j hj => hbl.fz _)
    rw [HKC.out] at hrun
    have hb2 := Blk.setCells (nums .u8 (keyL k)) 0 hbl
    rw [set_fill (by rw [← HNN.out]; exact hkl)] at hb2
    have hg2 : Grew w ((w1.alloc (.cells (nums .u8 (List.replicate 64 0)).toArray 99)).setCells gB 0 (nums .u8 (keyL k))) := by
      have h1 : Upd (fun _ => False) w1 ((w1.alloc (.cells (nums .u8 (List.replicate 64 0)).toArray 99)).setCells gB 0 (nums .u8 (keyL k))) := Upd.setCells (.inr (by rw [hgB]; exact Nat.le_refl _)) _ _ (Upd.of_grew (Grew.alloc _ _))
      exact Grew.trans HGW.out (h1.grew (by simp))
    have hfl : (fill64 (keyL k)).length = 64 := fill64_len (by rw [← HNN.out]; exact hkl)
    obtain ⟨F, hF⟩ : ∃ F, F = fill64 (keyL k) := ⟨_, rfl⟩
    rw [← hF] at hb2 hfl
    have hx0 : xorTo F n 0 = F := xorTo_0 F n hfl
    obtain ⟨W2, hW2⟩ : ∃ W2, W2 = ((w1.alloc (.cells (nums .u8 (List.replicate 64 0)).toArray 99)).setCells gB 0 (nums .u8 (keyL k))) := ⟨_, rfl⟩
    rw [← hW2] at hb2 hg2 hrun
    rw [← hx0] at hb2
    have HFe := Lib.hid hF
    rw [zerosB, hgB] at hrun
    have HG2 := Lib.hid hg2
    have HB2 := Lib.hid hb2
    clear hbl hF hW2 hfl hx0 hg2 hb2
    try clear hkl
    go_wp2_with (refine wpList_copyS (by rfl) (.tmp 13) (.tmp 14) 23 9 (by rfl) (by rfl) (by rfl) hrun ?_)
    rw [← hgB]
    clear hgB
    go_loopw [16] (fun iv wq => ∃ i : Nat, iv = .int .i64 (i : Int) ∧ i ≤ 64 ∧ Blk wq gB 99 (nums .u8 (xorTo F n i)) ∧ Grew w wq) (fun iv _ => 64 - (intOf iv).toNat)
    case atStart => exact ⟨0, rfl, by omega, HB2.out, HG2.out⟩
    case round =>
      obtain ⟨i, rfl, hi, hbq, hgq⟩ := hrel
      by_cases hi8 : i < 64
      · have d2 : decide ((i : Int) < 64) = true := decide_eq_true (by omega)
        have i1 : (i : Int) < 64 := by omega
        have c1 := hbq.at_ i
        rw [nums_get _ _ (by rw [xorTo_len]; exact hi8), xorTo_at _ _ _ hi8] at c1
        have c2 := hbq.fz i
        obtain ⟨y, hy⟩ : ∃ y, y = F.getD i 0 := ⟨_, rfl⟩
        rw [← hy] at c1
        obtain ⟨z, hz⟩ : ∃ z, z = x8 y n := ⟨_, rfl⟩
        have hz' : Go.bits .xor .u8 y n = z := hz.symm
        have HBq := Lib.hid hbq
        have HGq := Lib.hid hgq
        have HY := Lib.hid hy
        have HZ := Lib.hid hz
        clear hbq hgq hy hz hrun
        go_wp2_with fail
        go_roundw
        case rel =>
          refine ⟨i + 1, by go_num, by omega, ?_, Grew.setCell_new HGq.out (by simpa using hgle) _⟩
          have h := HBq.out.set i (.int .u8 z)
          rw [nums_set, HZ.out, HY.out, xorTo_succ _ _ _ hi8] at h
          rw [HZ.out, HY.out]
          exact h
        case measure => simp [intOf]; omega
      · have d2 : decide ((i : Int) < 64) = false := decide_eq_false (by omega)
        obtain rfl : i = 64 := by omega
        have HBq := Lib.hid hbq
        clear hbq hrun
        go_wp2_with fail
        go_ret
        refine ⟨_, rfl, ⟨gB, rfl, hgle, ?_⟩, hgq⟩
        unfold turnedL
        rw [← HFe.out]
        exact HBq.out
  · have d1 : decide (64 < nk) = false := decide_eq_false hbig
    have d1' : decide (64 < (nk : Int)) = false := decide_eq_false (by omega)
    have hke : keyL k = k := by unfold keyL; rw [if_neg (by omega)]
    have hBK : K = B := by rw [hB, hKe, hke]
    have HNB := Lib.hid (show nk = nn from by rw [hnk, hnn, hke])
    clear hb hKs hKc hnn hnk hke hB hKe
    subst hBK
    have hgw := Grew.refl w
    go_enter Try.func46, Try.ntmps46
    have HGW := Lib.hid hgw
    obtain ⟨gB, hgB⟩ : ∃ gB, gB = w.heap.size := ⟨_, rfl⟩
    have hgle : w.heap.size ≤ gB := by rw [hgB]; exact HGW.out.size
    have hbl : Blk (w.alloc (.cells (nums .u8 (List.replicate 64 0)).toArray 99)) gB 99 (nums .u8 (List.replicate 64 0)) := by rw [hgB]; exact Blk.new _ _ _
    have hrun := run_copy_string (P := Try.prog) (w.alloc (.cells (nums .u8 (List.replicate 64 0)).toArray 99)) 23 9 3 5 gB 0 64 64 K Try.underlying23 (fun _ => by rfl) (by rw [HKS.out]; exact hkl)
      (fun j hj => by rw [hbl.at_, nums_get _ _ (by rw [HKS.out] at hj; simp; omega)]; rfl) (fun j hj => hbl.fz _)
    rw [HKC.out] at hrun
    have hb2 := Blk.setCells (nums .u8 (keyL k)) 0 hbl
    rw [set_fill (by rw [← HNN.out]; exact hkl)] at hb2
    have hg2 : Grew w ((w.alloc (.cells (nums .u8 (List.replicate 64 0)).toArray 99)).setCells gB 0 (nums .u8 (keyL k))) := by
      have h1 : Upd (fun _ => False) w ((w.alloc (.cells (nums .u8 (List.replicate 64 0)).toArray 99)).setCells gB 0 (nums .u8 (keyL k))) := Upd.setCells (.inr (by rw [hgB]; exact Nat.le_refl _)) _ _ (Upd.of_grew (Grew.alloc _ _))
      exact Grew.trans HGW.out (h1.grew (by simp))
    have hfl : (fill64 (keyL k)).length = 64 := fill64_len (by rw [← HNN.out]; exact hkl)
    obtain ⟨F, hF⟩ : ∃ F, F = fill64 (keyL k) := ⟨_, rfl⟩
    rw [← hF] at hb2 hfl
    have hx0 : xorTo F n 0 = F := xorTo_0 F n hfl
    obtain ⟨W2, hW2⟩ : ∃ W2, W2 = ((w.alloc (.cells (nums .u8 (List.replicate 64 0)).toArray 99)).setCells gB 0 (nums .u8 (keyL k))) := ⟨_, rfl⟩
    rw [← hW2] at hb2 hg2 hrun
    rw [← hx0] at hb2
    have HFe := Lib.hid hF
    rw [zerosB, hgB] at hrun
    have HG2 := Lib.hid hg2
    have HB2 := Lib.hid hb2
    clear hbl hF hW2 hfl hx0 hg2 hb2
    try clear hkl
    go_wp2_with (refine wpList_copyS (by rfl) (.tmp 13) (.tmp 14) 23 9 (by rfl) (by rfl) (by rfl) hrun ?_)
    rw [← hgB]
    clear hgB
    go_loopw [16] (fun iv wq => ∃ i : Nat, iv = .int .i64 (i : Int) ∧ i ≤ 64 ∧ Blk wq gB 99 (nums .u8 (xorTo F n i)) ∧ Grew w wq) (fun iv _ => 64 - (intOf iv).toNat)
    case atStart => exact ⟨0, rfl, by omega, HB2.out, HG2.out⟩
    case round =>
      obtain ⟨i, rfl, hi, hbq, hgq⟩ := hrel
      by_cases hi8 : i < 64
      · have d2 : decide ((i : Int) < 64) = true := decide_eq_true (by omega)
        have i1 : (i : Int) < 64 := by omega
        have c1 := hbq.at_ i
        rw [nums_get _ _ (by rw [xorTo_len]; exact hi8), xorTo_at _ _ _ hi8] at c1
        have c2 := hbq.fz i
        obtain ⟨y, hy⟩ : ∃ y, y = F.getD i 0 := ⟨_, rfl⟩
        rw [← hy] at c1
        obtain ⟨z, hz⟩ : ∃ z, z = x8 y n := ⟨_, rfl⟩
        have hz' : Go.bits .xor .u8 y n = z := hz.symm
        have HBq := Lib.hid hbq
        have HGq := Lib.hid hgq
        have HY := Lib.hid hy
        have HZ := Lib.hid hz
        clear hbq hgq hy hz hrun
        go_wp2_with fail
        go_roundw
        case rel =>
          refine ⟨i + 1, by go_num, by omega, ?_, Grew.setCell_new HGq.out (by simpa using hgle) _⟩
          have h := HBq.out.set i (.int .u8 z)
          rw [nums_set, HZ.out, HY.out, xorTo_succ _ _ _ hi8] at h
          rw [HZ.out, HY.out]
          exact h
        case measure => simp [intOf]; omega
      · have d2 : decide ((i : Int) < 64) = false := decide_eq_false (by omega)
        obtain rfl : i = 64 := by omega
        have HBq := Lib.hid hbq
        clear hbq hrun
        go_wp2_with fail
        go_ret
        refine ⟨_, rfl, ⟨gB, rfl, hgle, ?_⟩, hgq⟩
        unfold turnedL
        rw [← HFe.out]
        exact HBq.out
end Go.Proofs.Ytimcafohmahapaa.F

-- MacR
namespace Go.Proofs.Ytimcafohmahapaa.F
open Go Go.RowKit Go.Proofs.YtimcafohmahapaaW.PrintWords Go.Proofs.YtimcafohmahapaaW.PrintLast Go.Proofs.YtimcafohmahapaaW.PrintMore Go.Proofs.YtimcafohmahapaaR
attribute [local go_sem] max2_int min2_int max_two min_two
set_option linter.unusedSimpArgs false
set_option linter.unusedVariables false
set_option maxRecDepth 100000
set_option maxHeartbeats 4000000 in
theorem rturned_c (w : World) (k : List Int) (n : Int) (hb : bytes8' k) (hk : k.length ≤ 1000000000) :
    Calls Try.prog 49 #[.string (strOfNums k), .int .u8 n] w (Tells w (Is (.string (strOfNums (turnedL k n))))) := by
  have hsz := str_size k
  obtain ⟨B, hB⟩ : ∃ B, B = strOfNums k := ⟨_, rfl⟩
  rw [← hB] at hsz ⊢
  obtain ⟨nk, hnk⟩ : ∃ nk, nk = k.length := ⟨_, rfl⟩
  rw [← hnk] at hsz hk
  obtain ⟨K, hKe⟩ : ∃ K, K = strOfNums (keyL k) := ⟨_, rfl⟩
  have hkl := keyL_len k
  have HKB := Lib.hid (keyL_bytes hb)
  have hKs : K.size = (keyL k).length := by rw [hKe, str_size]
  obtain ⟨nn, hnn⟩ : ∃ nn, nn = (keyL k).length := ⟨_, rfl⟩
  rw [← hnn] at hkl hKs
  have HKS := Lib.hid hKs
  have HNN := Lib.hid hnn
  have HNK := Lib.hid hnk
  have HKE := Lib.hid hKe
  by_cases hbig : 64 < nk
  · have d1 : decide (64 < nk) = true := decide_eq_true hbig
    have d1' : decide (64 < (nk : Int)) = true := decide_eq_true (by omega)
    have hs := rsum_c w k (by omega) hb
    have hke : keyL k = shaL k := by unfold keyL; rw [if_pos (by omega)]
    rw [← hke, ← hKe, ← hB] at hs
    have HS := Lib.hid hs
    clear hs hke hb hKs hnn hnk hB hKe
    go_enter Try.func49, Try.ntmps49
    go_wp2_with fail
    refine HS.out.mono ?_
    rintro e w1 ⟨_, rfl, rfl, hgw⟩
    have HGW := Lib.hid hgw
    clear hgw hsz
    go_wp2_with fail
    go_loopw [5, 6] (fun v5 iv wq => ∃ (i : Nat) (O : ByteArray), v5 = .string O ∧ O = strOfNums ((turnedL k n).take i) ∧ iv = .int .i64 (i : Int) ∧ i ≤ 64 ∧ Grew w wq) (fun _ iv _ => 64 - (intOf iv).toNat)
    case atStart => exact ⟨0, _, rfl, rfl, rfl, by omega, HGW.out⟩
    case round =>
      obtain ⟨i, O, rfl, hO, rfl, hi, hgq⟩ := hrel
      by_cases hi8 : i < 64
      · have d2 : decide ((i : Int) < 64) = true := decide_eq_true (by omega)
        obtain ⟨y, hy⟩ : ∃ y, y = (fill64 (keyL k)).getD i 0 := ⟨_, rfl⟩
        obtain ⟨z, hz⟩ : ∃ z, z = x8 y n := ⟨_, rfl⟩
        have hz' : Go.bits .xor .u8 y n = z := hz.symm
        have hsucc : (turnedL k n).take (i + 1) = (turnedL k n).take i ++ [z] := by rw [turnedL_succ k n i hi8, hz, hy]
        obtain ⟨Q, hQ⟩ : ∃ Q, Q = strOfNums [z] := ⟨_, rfl⟩
        obtain ⟨O2, hO2⟩ : ∃ O2, O2 = strOfNums ((turnedL k n).take (i + 1)) := ⟨_, rfl⟩
        have hadd : O ++ Q = O2 := by rw [hO, hQ, hO2, hsucc, str_append]
        have hzz : ¬ (9223372036854775807 < O.size + Q.size) := by
          rw [hO, hQ, str_size, str_size, List.length_take]; simp; omega
        have hst : (convert 23 9 (.slice (some ⟨wr.heap.size, 0, none⟩) 1 1)).run Try.prog (wr.alloc (.cells #[.int .u8 z] 5)) = .ok (.string Q) (wr.alloc (.cells #[.int .u8 z] 5)) := by
          rw [hQ]; exact Kd.C_string (P := Try.prog) Try.underlying23 Try.underlying5 Try.underlying9 ((Blk.new wr 5 (nums .u8 [z])).C (by simp))
        have HO2 := Lib.hid hO2
        have HGq := Lib.hid hgq
        have hks := HKS.out
        by_cases hin : i < nn
        · have d3 : decide ((i : Int) < (nn : Int)) = true := decide_eq_true (by omega)
          have hix : ∀ w', Sem.run Try.prog (Instr.index 9 (.string K) (.int .i64 (i : Int))) w' = .ok (.int .u8 y) w' := fun w' => by
            rw [run_index_string w' _ K .i64 _ (by rfl), dif_pos ⟨by omega, by rw [hks]; omega⟩]
            congr 2
            have h1 := str_at (keyL k) HKB.out i (by rw [← HKE.out, hks]; exact hin)
            have h2 : ((byteN (keyL k) i : Nat) : Int) = y := by
              rw [hy]
              unfold byteN fill64
              have h3 : i < (keyL k).length := by rw [← HNN.out]; exact hin
              rw [List.getD_eq_getElem?_getD, List.getD_eq_getElem?_getD, List.getElem?_append_left h3, List.getElem?_eq_getElem h3]
              have := HKB.out _ (List.getElem_mem h3)
              simp; omega
            rw [← h2, ← h1]
            have e := HKE.out
            subst e
            rfl
          clear hO hy hz hQ hO2 hgq hsucc
          go_wp2_with fail
          go_roundw
          case rel => exact ⟨i + 1, _, rfl, HO2.out, by go_num, by omega, Grew.trans HGq.out (Grew.alloc _ _)⟩
          case measure => simp [intOf]; omega
        · have d3 : decide ((i : Int) < (nn : Int)) = false := decide_eq_false (by omega)
          have hy0 : y = 0 := by
            rw [hy]
            unfold fill64
            rw [List.getD_eq_getElem?_getD, List.getElem?_append_right (by rw [← HNN.out]; omega), List.getElem?_replicate]
            split <;> rfl
          subst hy0
          clear hO hy hz hQ hO2 hgq hsucc
          go_wp2_with fail
          go_roundw
          case rel => exact ⟨i + 1, _, rfl, HO2.out, by go_num, by omega, Grew.trans HGq.out (Grew.alloc _ _)⟩
          case measure => simp [intOf]; omega
      · have d2 : decide ((i : Int) < 64) = false := decide_eq_false (by omega)
        obtain rfl : i = 64 := by omega
        rw [List.take_of_length_le (by rw [turnedL_len]; exact Nat.le_refl _)] at hO
        have HO := Lib.hid hO
        clear hO
        go_wp2_with fail
        go_ret
        refine ⟨_, rfl, ?_, hgq⟩
        rw [← HO.out]
        rfl
  · have d1 : decide (64 < nk) = false := decide_eq_false hbig
    have d1' : decide (64 < (nk : Int)) = false := decide_eq_false (by omega)
    have hke : keyL k = k := by unfold keyL; rw [if_neg (by omega)]
    have hBK : K = B := by rw [hB, hKe, hke]
    subst hBK
    have HGW := Lib.hid (Grew.refl w)
    clear hb hKs hnn hnk hke hB hKe
    go_enter Try.func49, Try.ntmps49
    go_wp2_with fail
    clear hsz
    go_loopw [5, 6] (fun v5 iv wq => ∃ (i : Nat) (O : ByteArray), v5 = .string O ∧ O = strOfNums ((turnedL k n).take i) ∧ iv = .int .i64 (i : Int) ∧ i ≤ 64 ∧ Grew w wq) (fun _ iv _ => 64 - (intOf iv).toNat)
    case atStart => exact ⟨0, _, rfl, rfl, rfl, by omega, HGW.out⟩
    case round =>
      obtain ⟨i, O, rfl, hO, rfl, hi, hgq⟩ := hrel
      by_cases hi8 : i < 64
      · have d2 : decide ((i : Int) < 64) = true := decide_eq_true (by omega)
        obtain ⟨y, hy⟩ : ∃ y, y = (fill64 (keyL k)).getD i 0 := ⟨_, rfl⟩
        obtain ⟨z, hz⟩ : ∃ z, z = x8 y n := ⟨_, rfl⟩
        have hz' : Go.bits .xor .u8 y n = z := hz.symm
        have hsucc : (turnedL k n).take (i + 1) = (turnedL k n).take i ++ [z] := by rw [turnedL_succ k n i hi8, hz, hy]
        obtain ⟨Q, hQ⟩ : ∃ Q, Q = strOfNums [z] := ⟨_, rfl⟩
        obtain ⟨O2, hO2⟩ : ∃ O2, O2 = strOfNums ((turnedL k n).take (i + 1)) := ⟨_, rfl⟩
        have hadd : O ++ Q = O2 := by rw [hO, hQ, hO2, hsucc, str_append]
        have hzz : ¬ (9223372036854775807 < O.size + Q.size) := by
          rw [hO, hQ, str_size, str_size, List.length_take]; simp; omega
        have hst : (convert 23 9 (.slice (some ⟨wr.heap.size, 0, none⟩) 1 1)).run Try.prog (wr.alloc (.cells #[.int .u8 z] 5)) = .ok (.string Q) (wr.alloc (.cells #[.int .u8 z] 5)) := by
          rw [hQ]; exact Kd.C_string (P := Try.prog) Try.underlying23 Try.underlying5 Try.underlying9 ((Blk.new wr 5 (nums .u8 [z])).C (by simp))
        have HO2 := Lib.hid hO2
        have HGq := Lib.hid hgq
        have hks := HKS.out
        by_cases hin : i < nn
        · have d3 : decide ((i : Int) < (nn : Int)) = true := decide_eq_true (by omega)
          have hix : ∀ w', Sem.run Try.prog (Instr.index 9 (.string K) (.int .i64 (i : Int))) w' = .ok (.int .u8 y) w' := fun w' => by
            rw [run_index_string w' _ K .i64 _ (by rfl), dif_pos ⟨by omega, by rw [hks]; omega⟩]
            congr 2
            have h1 := str_at (keyL k) HKB.out i (by rw [← HKE.out, hks]; exact hin)
            have h2 : ((byteN (keyL k) i : Nat) : Int) = y := by
              rw [hy]
              unfold byteN fill64
              have h3 : i < (keyL k).length := by rw [← HNN.out]; exact hin
              rw [List.getD_eq_getElem?_getD, List.getD_eq_getElem?_getD, List.getElem?_append_left h3, List.getElem?_eq_getElem h3]
              have := HKB.out _ (List.getElem_mem h3)
              simp; omega
            rw [← h2, ← h1]
            have e := HKE.out
            subst e
            rfl
          clear hO hy hz hQ hO2 hgq hsucc
          go_wp2_with fail
          go_roundw
          case rel => exact ⟨i + 1, _, rfl, HO2.out, by go_num, by omega, Grew.trans HGq.out (Grew.alloc _ _)⟩
          case measure => simp [intOf]; omega
        · have d3 : decide ((i : Int) < (nn : Int)) = false := decide_eq_false (by omega)
          have hy0 : y = 0 := by
            rw [hy]
            unfold fill64
            rw [List.getD_eq_getElem?_getD, List.getElem?_append_right (by rw [← HNN.out]; omega), List.getElem?_replicate]
            split <;> rfl
          subst hy0
          clear hO hy hz hQ hO2 hgq hsucc
          go_wp2_with fail
          go_roundw
          case rel => exact ⟨i + 1, _, rfl, HO2.out, by go_num, by omega, Grew.trans HGq.out (Grew.alloc _ _)⟩
          case measure => simp [intOf]; omega
      · have d2 : decide ((i : Int) < 64) = false := decide_eq_false (by omega)
        obtain rfl : i = 64 := by omega
        rw [List.take_of_length_le (by rw [turnedL_len]; exact Nat.le_refl _)] at hO
        have HO := Lib.hid hO
        clear hO
        go_wp2_with fail
        go_ret
        refine ⟨_, rfl, ?_, hgq⟩
        rw [← HO.out]
        rfl
end Go.Proofs.Ytimcafohmahapaa.F

-- MacS
namespace Go.Proofs.Ytimcafohmahapaa.F
open Go Go.RowKit Go.Proofs.YtimcafohmahapaaW.PrintWords Go.Proofs.YtimcafohmahapaaW.PrintLast Go.Proofs.YtimcafohmahapaaW.PrintMore Go.Proofs.YtimcafohmahapaaR
attribute [local go_sem] max2_int min2_int max_two min_two
set_option linter.unusedSimpArgs false
set_option linter.unusedVariables false
set_option maxRecDepth 100000
/-- what Write leaves, with its count -/
def HashW (g : Nat) (l : List Int) (B : Nat) (w0 w : World) (rv : Value) : Prop := ∃ rv', HashA g l.length l rv' B w ∧ (∀ k, rv'.ownBlock = some k → rv.ownBlock = some k ∨ w0.heap.size ≤ k)
theorem write_h {g : Nat} {l : List Int} {rv : Value} {B : Nat} (w : World) (A : Option Addr) (c n : Nat) (x : List Int) (h : HashA g l.length l rv B w) (hn : x.length = n) (hBw : B ≤ w.heap.size)
    (hr : ∀ w', Upd (HS g rv) w w' → Kd.C (Kd.int .u8) w' A n x) (hc : n ≤ c) (hl : l.length + n ≤ 1000000000) (hb : bytes8' x) :
    Calls Try.prog 45 #[.pointer (some ⟨g, 0, none⟩), .slice A n c] w (Does (HS g rv) w (fun w' v => v = .tuple #[] ∧ HashW g (l ++ x) B w w' rv)) := by
  subst hn
  refine (write_c w A c x h hBw hr hc hl hb).mono ?_
  rintro e w' ⟨v, rfl, ⟨rfl, rv', hh, hf⟩, hu⟩
  rw [← List.length_append] at hh
  exact ⟨_, rfl, ⟨rfl, rv', hh, hf⟩, hu⟩
set_option maxHeartbeats 4000000 in
theorem seal_c (w : World) (k m : List Int) (hk : bytes8' k) (hm : bytes8' m) (hkl : k.length ≤ 100000000) (hml : m.length ≤ 100000000) :
    Calls Try.prog 40 #[.string (strOfNums k), .string (strOfNums m)] w (Tells w (Is (.string (strOfNums (sealL k m))))) := by
  have hms := str_size m
  have HT1 := Lib.hid (fun w => turned_c w k 54 hk (by omega))
  have HT2 := Lib.hid (fun w => turned_c w k 92 hk (by omega))
  obtain ⟨K, hK⟩ : ∃ K, K = strOfNums k := ⟨_, rfl⟩
  rw [← hK] at HT1 HT2 ⊢
  obtain ⟨M, hM⟩ : ∃ M, M = strOfNums m := ⟨_, rfl⟩
  rw [← hM] at hms ⊢
  obtain ⟨nm, hnm⟩ : ∃ nm, nm = m.length := ⟨_, rfl⟩
  rw [← hnm] at hms hml
  have hbym := fun W => print_bytes (P := Try.prog) 9 23 5 Try.underlying9 Try.underlying23 Try.underlying5 M W
  rw [hms] at hbym
  have hrdm : ∀ W, ReadsInt (Lib.bytesWorld W 5 M) .u8 (some ⟨W.heap.size, 0, none⟩) nm m := fun W => by
    have h := bytes_reads W 5 M (by rw [hms]; omega)
    rw [hms, hM, bytesOf_str' hm] at h
    rw [hM]; exact h
  obtain ⟨t1, ht1⟩ : ∃ t1, t1 = turnedL k 54 := ⟨_, rfl⟩
  obtain ⟨t2, ht2⟩ : ∃ t2, t2 = turnedL k 92 := ⟨_, rfl⟩
  have hl1 : t1.length = 64 := by rw [ht1]; exact turnedL_len _ _
  have hl2 : t2.length = 64 := by rw [ht2]; exact turnedL_len _ _
  have HB1 := Lib.hid (show bytes8' t1 from by rw [ht1]; exact turnedL_bytes _ _)
  have HB2 := Lib.hid (show bytes8' t2 from by rw [ht2]; exact turnedL_bytes _ _)
  obtain ⟨D, hD⟩ : ∃ D, D = shaL (t1 ++ m) := ⟨_, rfl⟩
  have hDl : D.length = 32 := by rw [hD]; exact shaL_len _
  have HDB := Lib.hid (show bytes8' D from by rw [hD]; exact shaL_bytes _)
  have hseal : sealL k m = shaL (t2 ++ D) := by rw [hD, ht1, ht2]; rfl
  rw [hseal]
  rw [← ht1] at HT1
  rw [← ht2] at HT2
  obtain ⟨DS, hDS⟩ : ∃ DS, DS = strOfNums D := ⟨_, rfl⟩
  have hdss : DS.size = 32 := by rw [hDS, str_size, hDl]
  have hbyd := fun W => print_bytes (P := Try.prog) 9 23 5 Try.underlying9 Try.underlying23 Try.underlying5 DS W
  rw [hdss] at hbyd
  have hrdd : ∀ W, ReadsInt (Lib.bytesWorld W 5 DS) .u8 (some ⟨W.heap.size, 0, none⟩) 32 D := fun W => by
    have h := bytes_reads W 5 DS (by rw [hdss]; omega)
    rw [hdss, hDS, bytesOf_str' HDB.out] at h
    rw [hDS]; exact h
  have HM := Lib.hid hm
  have HNM := Lib.hid hnm
  have HL1 := Lib.hid hl1
  have HL2 := Lib.hid hl2
  have HDL := Lib.hid hDl
  have HRM := Lib.hid hrdm
  have HRD := Lib.hid hrdd
  have HDe := Lib.hid hD
  have HDS := Lib.hid hDS
  have hbw : ∀ (W : World) (s : ByteArray), Grew W (Lib.bytesWorld W 5 s) := fun W s => bytes_below (Below.refl _ _) (Nat.le_refl _) _ _
  clear hk hm hnm hl1 hl2 hDl hrdm hrdd hD hDS ht1 ht2 hseal hK hM hms hdss
  go_enter Try.func40, Try.ntmps40
  go_wp2_with fail
  refine (new_h w).mono ?_
  rintro e w1 ⟨_, rfl, ⟨g, rfl, hh1⟩, hg1⟩
  go_wp2_with fail
  refine (HT1.out w1).mono ?_
  rintro e w2 ⟨_, rfl, ⟨g5, rfl, hg5, hb5⟩, hg2⟩
  have hlt1 := hh1.cells.lt
  have hlow1 := HS.low hh1
  have hw1 := hg1.size
  go_wp2_with fail
  refine (write_h (l := []) w2 (some ⟨g5, 0, none⟩) 64 64 t1 (hh1.grew hg2) HL1.out (Grew.trans hg1 hg2).size (fun w' hu => by
    have h := (hb5.upd hu (fun hS => hS.elim (fun e => by omega) (fun e => by simp [Value.ownBlock] at e))).C (by rw [HL1.out]; omega)
    rw [HL1.out] at h; exact h) (Nat.le_refl _) (by simp) HB1.out).mono ?_
  rintro e w3 ⟨_, rfl, ⟨rfl, rv3, hh3, hf3⟩, hu3⟩
  rw [List.nil_append] at hh3
  have hg3 : Grew w w3 := Below.trans (Grew.trans hg1 hg2) (hu3.below (Grew.trans hg1 hg2).size hlow1)
  have hlow3 := HS.low hh3
  go_wp2_with fail
  refine (write_h (Lib.bytesWorld w3 5 M) (some ⟨w3.heap.size, 0, none⟩) (grownCap w3 nm 0 5) nm m (hh3.grew (hbw w3 M)) HNM.out.symm (Nat.le_trans hg3.size (hbw w3 M).size) (fun w' hu => C_upd (C_of (HRM.out w3)) hu (fun ad hA hS => by
    obtain rfl := Option.some.inj hA
    rcases hS with e | e
    · have := hh3.cells.lt; simp only at e; omega
    · have := own_lt hh3.row _ e; simp only at this; omega)) (grownCap_ge _ _ _ _) (by rw [HL1.out]; omega) HM.out).mono ?_
  rintro e w4 ⟨_, rfl, ⟨rfl, rv4, hh4, hf4⟩, hu4⟩
  have hg3b := Grew.trans hg3 (hbw w3 M)
  have hg4 : Grew w w4 := Below.trans hg3b (hu4.below hg3b.size hlow3)
  have hlow4 := HS.low hh4
  have hlt4 := hh4.cells.lt
  have hrlt4 := own_lt hh4.row
  go_wp2_with fail
  refine (new_h w4).mono ?_
  rintro e w5 ⟨_, rfl, ⟨g', rfl, hh5⟩, hg5'⟩
  have hne : g ≠ g' := by have := hh5.low; omega
  go_wp2_with fail
  refine (HT2.out w5).mono ?_
  rintro e w6 ⟨_, rfl, ⟨g6, rfl, hg6, hb6⟩, hgr6⟩
  have hlt5 := hh5.cells.lt
  have hlow5 := HS.low hh5
  go_wp2_with fail
  refine (write_h (l := []) w6 (some ⟨g6, 0, none⟩) 64 64 t2 (hh5.grew hgr6) HL2.out (Grew.trans hg5' hgr6).size (fun w' hu => by
    have h := (hb6.upd hu (fun hS => hS.elim (fun e => by omega) (fun e => by simp [Value.ownBlock] at e))).C (by rw [HL2.out]; omega)
    rw [HL2.out] at h; exact h) (Nat.le_refl _) (by simp) HB2.out).mono ?_
  rintro e w7 ⟨_, rfl, ⟨rfl, rv7, hh7, hf7⟩, hu7⟩
  rw [List.nil_append] at hh7
  have hg46 := Grew.trans hg5' hgr6
  have hh47 := (hh4.grew hg46).upd hu7 (fun j hj hS => by
    have hj4 : j < w4.heap.size := hj.elim (fun e => by omega) (fun e => hrlt4 j e)
    have := hlow5 j hS
    omega)
  have hg7 : Grew w w7 := Below.trans (Grew.trans hg4 hg46) (hu7.below (Grew.trans hg4 hg46).size (fun j hj => Nat.le_trans hg4.size (hlow5 j hj)))
  have hlow7 := HS.low hh7
  have hs1 := sum_c w7 hh47 (by rw [List.length_append, HL1.out, ← HNM.out]; omega)
  rw [← HDe.out, ← HDS.out] at hs1
  have HS1 := Lib.hid hs1
  clear hs1
  go_wp2_with fail
  refine HS1.out.mono ?_
  rintro e w8 ⟨_, rfl, rfl, hg8⟩
  go_wp2_with fail
  have hg78 := Grew.trans hg8 (hbw w8 DS)
  refine (write_h (Lib.bytesWorld w8 5 DS) (some ⟨w8.heap.size, 0, none⟩) (grownCap w8 32 0 5) 32 D (hh7.grew hg78) HDL.out (Nat.le_trans (Nat.le_trans (Nat.le_refl _) (Nat.le_trans hg46.size hu7.size)) hg78.size) (fun w' hu => C_upd (C_of (HRD.out w8)) hu (fun ad hA hS => by
    obtain rfl := Option.some.inj hA
    have h8 := hg8.size
    rcases hS with e | e
    · have := hh7.cells.lt; simp only at e; omega
    · have := own_lt hh7.row _ e; simp only at this; omega)) (grownCap_ge _ _ _ _) (by rw [HL2.out]; omega) HDB.out).mono ?_
  rintro e w9 ⟨_, rfl, ⟨rfl, rv9, hh9, hf9⟩, hu9⟩
  have hg9 : Grew w w9 := Below.trans (Grew.trans hg7 hg78) (hu9.below (Grew.trans hg7 hg78).size (fun j hj => Nat.le_trans hg4.size (hlow7 j hj)))
  have HS9 := Lib.hid (sum_c w9 hh9 (by rw [List.length_append, HL2.out, HDL.out]; omega))
  go_wp2_with fail
  refine HS9.out.mono ?_
  rintro e w10 ⟨_, rfl, rfl, hg10⟩
  go_wp2_with fail
  go_ret
  exact ⟨_, rfl, rfl, Grew.trans hg9 hg10⟩
set_option maxHeartbeats 4000000 in
theorem rseal_c (w : World) (k m : List Int) (hk : bytes8' k) (hm : bytes8' m) (hkl : k.length ≤ 100000000) (hml : m.length ≤ 100000000) :
    Calls Try.prog 43 #[.string (strOfNums k), .string (strOfNums m)] w (Tells w (Is (.string (strOfNums (sealL k m))))) := by
  obtain ⟨t1, ht1⟩ : ∃ t1, t1 = turnedL k 54 := ⟨_, rfl⟩
  obtain ⟨t2, ht2⟩ : ∃ t2, t2 = turnedL k 92 := ⟨_, rfl⟩
  have hl1 : t1.length = 64 := by rw [ht1]; exact turnedL_len _ _
  have hl2 : t2.length = 64 := by rw [ht2]; exact turnedL_len _ _
  have hb1 : bytes8' t1 := by rw [ht1]; exact turnedL_bytes _ _
  have hb2 : bytes8' t2 := by rw [ht2]; exact turnedL_bytes _ _
  have h1 := fun w => rturned_c w k 54 hk (by omega)
  have h2 := fun w => rturned_c w k 92 hk (by omega)
  rw [← ht1] at h1
  rw [← ht2] at h2
  have ha : ∀ (a b : List Int), bytes8' a → bytes8' b → bytes8' (a ++ b) := fun a b h1 h2 y hy => (List.mem_append.1 hy).elim (h1 y) (h2 y)
  have h3 := fun w => rsum_c w (t1 ++ m) (by rw [List.length_append]; omega) (ha _ _ hb1 hm)
  have h4 := fun w => rsum_c w (t2 ++ shaL (t1 ++ m)) (by rw [List.length_append, shaL_len]; omega) (ha _ _ hb2 (shaL_bytes _))
  have hseal : sealL k m = shaL (t2 ++ shaL (t1 ++ m)) := by rw [ht1, ht2]; rfl
  rw [hseal]
  obtain ⟨K, hK⟩ : ∃ K, K = strOfNums k := ⟨_, rfl⟩
  obtain ⟨M, hM⟩ : ∃ M, M = strOfNums m := ⟨_, rfl⟩
  obtain ⟨T1, hT1⟩ : ∃ T1, T1 = strOfNums t1 := ⟨_, rfl⟩
  obtain ⟨T2, hT2⟩ : ∃ T2, T2 = strOfNums t2 := ⟨_, rfl⟩
  obtain ⟨D, hD⟩ : ∃ D, D = strOfNums (shaL (t1 ++ m)) := ⟨_, rfl⟩
  obtain ⟨X1, hX1⟩ : ∃ X1, X1 = strOfNums (t1 ++ m) := ⟨_, rfl⟩
  obtain ⟨X2, hX2⟩ : ∃ X2, X2 = strOfNums (t2 ++ shaL (t1 ++ m)) := ⟨_, rfl⟩
  have a1 : T1 ++ M = X1 := by rw [hT1, hM, hX1, str_append]
  have a2 : T2 ++ D = X2 := by rw [hT2, hD, hX2, str_append]
  have z1 : ¬ (9223372036854775807 < T1.size + M.size) := by rw [hT1, hM, str_size, str_size]; omega
  have z2 : ¬ (9223372036854775807 < T2.size + D.size) := by rw [hT2, hD, str_size, str_size, shaL_len]; omega
  rw [← hT1] at h1
  rw [← hT2] at h2
  rw [← hX1, ← hD] at h3
  rw [← hX2] at h4
  rw [← hK] at h1 h2
  rw [← hK, ← hM]
  have H1 := Lib.hid h1
  have H2 := Lib.hid h2
  have H3 := Lib.hid h3
  have H4 := Lib.hid h4
  clear h1 h2 h3 h4 hK hM hT1 hT2 hD hX1 hX2 hl1 hl2 hb1 hb2 ht1 ht2 hk hm hseal
  go_enter Try.func43, Try.ntmps43
  go_wp2_with fail
  refine (H2.out w).mono ?_
  rintro e w1 ⟨_, rfl, rfl, hg1⟩
  go_wp2_with fail
  refine (H1.out w1).mono ?_
  rintro e w2 ⟨_, rfl, rfl, hg2⟩
  go_wp2_with fail
  refine (H3.out w2).mono ?_
  rintro e w3 ⟨_, rfl, rfl, hg3⟩
  go_wp2_with fail
  refine (H4.out w3).mono ?_
  rintro e w4 ⟨_, rfl, rfl, hg4⟩
  go_wp2_with fail
  go_ret
  exact ⟨_, rfl, rfl, Grew.trans (Grew.trans (Grew.trans hg1 hg2) hg3) hg4⟩
end Go.Proofs.Ytimcafohmahapaa.F

-- F41
namespace Go.Proofs.Ytimcafohmahapaa.F
open Go.RowKit Go.Proofs.YtimcafohmahapaaW.PrintWords Go.Proofs.YtimcafohmahapaaW.PrintLast Go.Proofs.YtimcafohmahapaaW.PrintMore
attribute [local go_sem] max2_int min2_int max_two min_two max_three min_three max_four min_four   -- for this text's walks alone
set_option linter.unusedVariables false
set_option linter.unusedSimpArgs false

/-! ### roll_make16: function 41 -/
def roll_make16.f (a0 : Int) (a1 : Int) : Option (Int) := some (Go.bits .or .u32 (Go.bits .and .u32 a0 65535) ((a1 * 65536) % 4294967296))
set_option maxHeartbeats 8000000 in
set_option maxRecDepth 100000 in
theorem roll_make16.calls (a0 : Int) (a1 : Int) (r : Int) (w : World) (h : roll_make16.f a0 a1 = some r) :
    Calls Try.prog 41 #[.int .u32 a0, .int .u32 a1] w fun e w' => e = .returned (.int .u32 r) ∧ Drawn0 w w' := by
  have H : (some (Go.bits .or .u32 (Go.bits .and .u32 a0 65535) ((a1 * 65536) % 4294967296))) = some r := h
  clear h
  obtain rfl := Option.some.inj H
  go_enter Try.func41, Try.ntmps41
  go_wp2
  go_ret
  exact ⟨by first | rfl | (simp; done) | (simp [*]; done), by repeat (first | exact Drawn0.refl _ | apply Drawn0.step)⟩

end Go.Proofs.Ytimcafohmahapaa.F

-- F31
namespace Go.Proofs.Ytimcafohmahapaa.F
open Go.RowKit Go.Proofs.YtimcafohmahapaaW.PrintWords Go.Proofs.YtimcafohmahapaaW.PrintLast Go.Proofs.YtimcafohmahapaaW.PrintMore
attribute [local go_sem] max2_int min2_int max_two min_two max_three min_three max_four min_four   -- for this text's walks alone
set_option linter.unusedVariables false
set_option linter.unusedSimpArgs false

/-! ### roll_Sum: function 31 -/
def roll_Sum.l0 : Nat → Int → Int → List Int → Int → Int → Option (Int)
  | 0, _, _, _, _, _ => none
  | k + 1, x3, x4, x7, x8, x9 => if x9 < x8 then (if 0 ≤ x9 then (if x9 < (x7.length : Int) then (roll_Sum.l0 k ((x3 + ((rd x7 x9) % 4294967296)) % 4294967296) ((x4 + ((x3 + ((rd x7 x9) % 4294967296)) % 4294967296)) % 4294967296) x7 x8 (wrap64 (x9 + 1))) else (none)) else (none)) else ((roll_make16.f x3 x4).bind fun t109 => (some t109))
def roll_Sum.f (k : Nat) (l0 : List Int) : Option (Int) := roll_Sum.l0 k 0 0 l0 (l0.length : Int) 0
set_option maxHeartbeats 8000000 in
set_option maxRecDepth 100000 in
theorem roll_Sum.calls (k : Nat) (A0 : Option Addr) (c0 : Nat) (l0 : List Int) (r : Int) (w : World) (hr0 : Kd.C (Kd.int .u8) w A0 l0.length l0) (hc0 : l0.length ≤ c0) (h : roll_Sum.f k l0 = some r) :
    Calls Try.prog 31 #[.slice A0 l0.length c0] w fun e w' => e = .returned (.int .u32 r) ∧ Drawn0 w w' := by
  have HR0 := Aside0.mk hr0
  have HC0 := Aside0.mk hc0
  clear hr0 hc0
  have H : (roll_Sum.l0 k 0 0 l0 (l0.length : Int) 0) = some r := h
  clear h
  have H' := Aside0.mk H
  clear H
  go_enter Try.func31, Try.ntmps31
  go_wp2
  go_loopg [3, 4, 9] k (fun kq v3 v4 v9 w' => ∃ (x3_1 : Int) (x4_1 : Int) (x9_1 : Int), v3 = .int .u32 x3_1 ∧ v4 = .int .u32 x4_1 ∧ v9 = .int .i64 x9_1 ∧ Aside0 (roll_Sum.l0 kq x3_1 x4_1 l0 (l0.length : Int) x9_1 = some r) ∧ Aside0 (kq ≤ k) ∧ Drawn0 w w')
  case atStart => exact ⟨(0), (0), (0), (by first | rfl | (simp; done) | (simp [*]; done)), (by first | rfl | (simp; done) | (simp [*]; done)), (by first | rfl | (simp; done) | (simp [*]; done)), H', ⟨Nat.le_refl _⟩, by repeat (first | exact Drawn0.refl _ | apply Drawn0.step)⟩
  case round =>
    clear H'
    obtain ⟨x3_1, x4_1, x9_1, rfl, rfl, rfl, HA, HK1, ⟨m1, rfl⟩⟩ := hrel
    cases gk with
    | zero => exact absurd HA.out (by simp [roll_Sum.l0])
    | succ k1 =>
      have H := HA.out
      clear HA
      simp only [roll_Sum.l0] at H
      by_cases c2 : x9_1 < (l0.length : Int)
      · rw [if_pos c2] at H
        have c2b0 : decide (x9_1 < (l0.length : Int)) = true := decide_eq_true c2
        clear c2
        by_cases c3 : 0 ≤ x9_1
        · rw [if_pos c3] at H
          have c3b0 : decide (0 ≤ x9_1) = true := decide_eq_true c3
          clear c3
          by_cases c4 : x9_1 < (l0.length : Int)
          · rw [if_pos c4] at H
            have c4b0 : decide (x9_1 < (l0.length : Int)) = true := decide_eq_true c4
            clear c4
            have H' := Aside0.mk H
            clear H
            have p108 : 0 ≤ (x9_1 : Int) := of_decide_eq_true (by first | (with_reducible assumption) | assumption)
            have q108 : x9_1 < (l0.length : Int) := of_decide_eq_true (by first | (with_reducible assumption) | assumption)
            obtain ⟨ad108, e108, hx108_0⟩ := Kd.at_int HR0.out x9_1 p108 q108
            cases e108
            replace p108 := eq_true p108
            replace q108 := eq_true q108
            go_wp2
            go_roundg k1
            case measure => have := HK1.out; omega
            case rel => exact ⟨((x3_1 + ((rd l0 x9_1) % 4294967296)) % 4294967296), ((x4_1 + ((x3_1 + ((rd l0 x9_1) % 4294967296)) % 4294967296)) % 4294967296), (wrap64 (x9_1 + 1)), (by first | rfl | (simp; done) | (simp [*]; done)), (by first | rfl | (simp; done) | (simp [*]; done)), (by first | rfl | (simp; done) | (simp [*]; done)), H', ⟨by have := HK1.out; omega⟩, by repeat (first | exact Drawn0.refl _ | apply Drawn0.step)⟩
          · rw [if_neg c4] at H
            exact absurd H (by simp)
        · rw [if_neg c3] at H
          exact absurd H (by simp)
      · rw [if_neg c2] at H
        have c2b0 : decide (x9_1 < (l0.length : Int)) = false := decide_eq_false c2
        clear c2
        replace H := Option.bind_eq_some_iff.mp H
        obtain ⟨t109, A50, H⟩ := H
        replace H : (some t109) = some r := H
        have A5 := Aside0.mk A50
        clear A50
        obtain rfl := Option.some.inj H
        go_wp2_with (first | ((with_reducible refine gate_callee (f := 41) rfl ?_); refine goesL_ (some 23) rfl rfl Try.func41 (by kernel_rfl) rfl #[.int .u32 x3_1, .int .u32 x4_1] rfl (by (try simp only [List.map_toArray, List.map_cons, List.map_nil]); first | done | rfl | (simp only [List.length_drop, List.length_take]; rfl)) ?_; (with_reducible refine (roll_make16.calls x3_1 x4_1 t109 _ A5.out).mono ?_); rintro e w' ⟨rfl, ⟨nd, rfl⟩⟩; refine ⟨_, rfl, ?_⟩))
        go_ret
        exact ⟨by first | rfl | (simp; done) | (simp [*]; done), by repeat (first | exact Drawn0.refl _ | apply Drawn0.step)⟩

end Go.Proofs.Ytimcafohmahapaa.F

-- F42
namespace Go.Proofs.Ytimcafohmahapaa.F
open Go.RowKit Go.Proofs.YtimcafohmahapaaW.PrintWords Go.Proofs.YtimcafohmahapaaW.PrintLast Go.Proofs.YtimcafohmahapaaW.PrintMore
attribute [local go_sem] max2_int min2_int max_two min_two max_three min_three max_four min_four   -- for this text's walks alone
set_option linter.unusedVariables false
set_option linter.unusedSimpArgs false

/-! ### strongroomref04_Sum: function 42 -/
def strongroomref04_Sum.l0 : Nat → ByteArray → Int → Int → Int → Option (Int)
  | 0, _, _, _, _ => none
  | k + 1, x0, x3, x4, x5 => if x5 < (x0.size : Int) then (if 0 ≤ x5 then (strongroomref04_Sum.l0 k x0 (IntKind.u64.wrap (x3 + (IntKind.u64.wrap (bt x0 x5)))) (IntKind.u64.wrap (x4 + (IntKind.u64.wrap ((IntKind.u64.wrap (bt x0 x5)) * (IntKind.u64.wrap (wrap64 ((x0.size : Int) - x5))))))) (wrap64 (x5 + 1))) else (none)) else (some ((IntKind.u64.wrap ((Int.tmod x3 65536) + (IntKind.u64.wrap (65536 * (Int.tmod x4 65536))))) % 4294967296))
def strongroomref04_Sum.f (k : Nat) (a0 : ByteArray) : Option (Int) := strongroomref04_Sum.l0 k a0 0 0 0
set_option maxHeartbeats 8000000 in
set_option maxRecDepth 100000 in
theorem strongroomref04_Sum.calls (k : Nat) (a0 : ByteArray) (r : Int) (w : World) (h : strongroomref04_Sum.f k a0 = some r) :
    Calls Try.prog 42 #[.string a0] w fun e w' => e = .returned (.int .u32 r) ∧ Drawn0 w w' := by
  have H : (strongroomref04_Sum.l0 k a0 0 0 0) = some r := h
  clear h
  have H' := Aside0.mk H
  clear H
  go_enter Try.func42, Try.ntmps42
  go_wp2
  go_loopg [3, 4, 5] k (fun kq v3 v4 v5 w' => ∃ (x3_1 : Int) (x4_1 : Int) (x5_1 : Int), v3 = .int .u64 x3_1 ∧ v4 = .int .u64 x4_1 ∧ v5 = .int .i64 x5_1 ∧ Aside0 (strongroomref04_Sum.l0 kq a0 x3_1 x4_1 x5_1 = some r) ∧ Aside0 (kq ≤ k) ∧ Drawn0 w w')
  case atStart => exact ⟨(0), (0), (0), (by first | rfl | (simp; done) | (simp [*]; done)), (by first | rfl | (simp; done) | (simp [*]; done)), (by first | rfl | (simp; done) | (simp [*]; done)), H', ⟨Nat.le_refl _⟩, by repeat (first | exact Drawn0.refl _ | apply Drawn0.step)⟩
  case round =>
    clear H'
    obtain ⟨x3_1, x4_1, x5_1, rfl, rfl, rfl, HA, HK1, ⟨m1, rfl⟩⟩ := hrel
    cases gk with
    | zero => exact absurd HA.out (by simp [strongroomref04_Sum.l0])
    | succ k1 =>
      have H := HA.out
      clear HA
      simp only [strongroomref04_Sum.l0] at H
      by_cases c2 : x5_1 < (a0.size : Int)
      · rw [if_pos c2] at H
        have c2b0 : decide (x5_1 < (a0.size : Int)) = true := decide_eq_true c2
        clear c2
        by_cases c3 : 0 ≤ x5_1
        · rw [if_pos c3] at H
          have c3b0 : decide (0 ≤ x5_1) = true := decide_eq_true c3
          clear c3
          have H' := Aside0.mk H
          clear H
          have p4 : 0 ≤ (x5_1 : Int) := of_decide_eq_true (by first | (with_reducible assumption) | assumption)
          have q4 : x5_1 < (a0.size : Int) := of_decide_eq_true (by first | (with_reducible assumption) | assumption)
          have hx4 := bt_at a0 x5_1
          replace p4 := eq_true p4
          replace q4 := eq_true q4
          have p5 : 0 ≤ (x5_1 : Int) := of_decide_eq_true (by first | (with_reducible assumption) | assumption)
          have q5 : x5_1 < (a0.size : Int) := of_decide_eq_true (by first | (with_reducible assumption) | assumption)
          have hx5 := bt_at a0 x5_1
          replace p5 := eq_true p5
          replace q5 := eq_true q5
          go_wp2
          go_roundg k1
          case measure => have := HK1.out; omega
          case rel => exact ⟨(IntKind.u64.wrap (x3_1 + (IntKind.u64.wrap (bt a0 x5_1)))), (IntKind.u64.wrap (x4_1 + (IntKind.u64.wrap ((IntKind.u64.wrap (bt a0 x5_1)) * (IntKind.u64.wrap (wrap64 ((a0.size : Int) - x5_1))))))), (wrap64 (x5_1 + 1)), (by first | rfl | (simp; done) | (simp [*]; done)), (by first | rfl | (simp; done) | (simp [*]; done)), (by first | rfl | (simp; done) | (simp [*]; done)), H', ⟨by have := HK1.out; omega⟩, by repeat (first | exact Drawn0.refl _ | apply Drawn0.step)⟩
        · rw [if_neg c3] at H
          exact absurd H (by simp)
      · rw [if_neg c2] at H
        have c2b0 : decide (x5_1 < (a0.size : Int)) = false := decide_eq_false c2
        clear c2
        obtain rfl := Option.some.inj H
        go_wp2
        go_ret
        exact ⟨by first | rfl | (simp; done) | (simp [*]; done), by repeat (first | exact Drawn0.refl _ | apply Drawn0.step)⟩

end Go.Proofs.Ytimcafohmahapaa.F

-- RollMath
namespace Go.Proofs.YtimcafohmahapaaM
open Go Go.RowKit

def st (s : Int × Int) (c : Int) : Int × Int := (s.1 + c, s.2 + (s.1 + c))
def AB (s : Int × Int) (l : List Int) : Int × Int := l.foldl st s
def weakOf (s : Int × Int) : Int := s.1 % 65536 + 65536 * (s.2 % 65536)
def weak (l : List Int) : Int := weakOf (AB (0, 0) l)

theorem u32_wraps (n : Int) (h₀ : 0 ≤ n) (h₁ : n < 2 ^ 32) : IntKind.u32.wrap n = n := by rw [IntKind.wrap_u32]; omega
theorem and16 (x : Int) (h0 : 0 ≤ x) (h1 : x < 4294967296) : Go.bits .and .u32 x 65535 = x % 65536 :=
  bits_mask .u32 32 (by decide) u32_wraps 16 (by decide) x h0 h1
theorem or16 (x y : Int) (h0 : 0 ≤ x) (h1 : x < 65536) (y0 : 0 ≤ y) (y1 : y < 4294967296) (hy : y % 65536 = 0) : Go.bits .or .u32 x y = x + y := by
  have h := bits_join .u32 32 (by decide) u32_wraps 16 y x y0 (by omega) (by omega) h0 (by omega) (by omega)
  rw [show Go.bits .or .u32 x y = Go.bits .or .u32 y x from ?_, h]; · omega
  unfold Go.bits; simp only [BitVec.or_comm]
theorem make16_eq (a b : Int) (a0 : 0 ≤ a) (a1 : a < 4294967296) :
    Go.bits .or .u32 (Go.bits .and .u32 a 65535) ((b * 65536) % 4294967296) = a % 65536 + 65536 * (b % 65536) := by
  rw [and16 a a0 a1, or16 _ _ (by omega) (by omega) (by omega) (by omega) (by omega)]; omega
theorem AB_append (s : Int × Int) (l m : List Int) : AB s (l ++ m) = AB (AB s l) m := by simp [AB]
theorem AB_shift (s : Int × Int) (l : List Int) : AB s l = (s.1 + (AB (0,0) l).1, s.2 + l.length * s.1 + (AB (0,0) l).2) := by
  induction l generalizing s with
  | nil => simp [AB]
  | cons c l ih =>
    have e1 : AB s (c :: l) = AB (st s c) l := rfl
    have e2 : AB (0,0) (c :: l) = AB (st (0,0) c) l := rfl
    rw [e1, e2, ih (st s c), ih (st (0,0) c)]
    simp only [st, List.length_cons, Int.natCast_add, Int.natCast_one, Int.add_mul, Int.mul_add]
    simp only [Prod.mk.injEq]; constructor <;> (try simp) <;> omega
theorem weakOf_congr {s t : Int × Int} (h1 : s.1 % 65536 = t.1 % 65536) (h2 : s.2 % 65536 = t.2 % 65536) : weakOf s = weakOf t := by
  unfold weakOf; rw [h1, h2]
theorem weakOf_range (s : Int × Int) : 0 ≤ weakOf s ∧ weakOf s < 4294967296 := by unfold weakOf; omega
theorem weakOf_lo (s : Int × Int) : weakOf s % 65536 = s.1 % 65536 := by unfold weakOf; omega
theorem weakOf_hi (s : Int × Int) : weakOf s / 65536 = s.2 % 65536 := by unfold weakOf; omega
theorem mul_congr16 (n p q : Int) (h : p % 65536 = q % 65536) : (n * p) % 65536 = (n * q) % 65536 := by rw [Int.mul_emod, h, ← Int.mul_emod]
theorem u64_wrap (n : Int) : IntKind.u64.wrap n = n % 18446744073709551616 := by simp [IntKind.wrap, IntKind.bits, IntKind.signed]
theorem mul_mod16 (n o : Int) : (n % 4294967296 * o) % 65536 = (n * o) % 65536 := by
  rw [Int.mul_comm, mul_congr16 o (n % 4294967296) n (by omega), Int.mul_comm]
theorem weak_range (l : List Int) : 0 ≤ weak l ∧ weak l < 4294967296 := weakOf_range _
/-- the sum of the window that is one on -/
def next (s n o i : Int) : Int := (s % 65536 - o + i) % 65536 + 65536 * ((s / 65536 - n * o + (s % 65536 - o + i)) % 65536)
theorem next_range (s n o i : Int) : 0 ≤ next s n o i ∧ next s n o i < 4294967296 := by unfold next; omega
theorem AB_cons (c : Int) (l : List Int) : AB (0,0) (c :: l) = (c + (AB (0,0) l).1, c + l.length * c + (AB (0,0) l).2) := by
  rw [show AB (0, 0) (c :: l) = AB (st (0,0) c) l from rfl, AB_shift]; simp [st]
theorem AB_snoc (c : Int) (l : List Int) : AB (0,0) (l ++ [c]) = ((AB (0,0) l).1 + c, (AB (0,0) l).2 + ((AB (0,0) l).1 + c)) := by
  rw [AB_append]; rfl
/-- the window goes on by one byte -/
theorem next_weak (o i : Int) (l : List Int) : next (weak (o :: l)) (l.length + 1) o i = weak (l ++ [i]) := by
  unfold next weak
  rw [weakOf_lo, weakOf_hi, AB_cons, AB_snoc]
  unfold weakOf
  simp only
  have : ((l.length : Int) + 1) * o = l.length * o + o := by rw [Int.add_mul]; omega
  rw [this]
  omega
/-- element i, opaque to simp -/
def byteAt (l : List Int) (i : Nat) : Int := l.getD i 0
theorem byteAt_eq (l : List Int) (i : Nat) (h : i < l.length) : byteAt l i = l[i] := by simp [byteAt, h]
theorem window_step (l : List Int) (n j : Nat) (h1 : 1 ≤ n) (h : n + j < l.length) :
    next (weak ((l.drop j).take n)) n (byteAt l j) (byteAt l (n + j)) = weak ((l.drop (j + 1)).take n) := by
  obtain ⟨m, rfl⟩ : ∃ m, n = m + 1 := ⟨n - 1, by omega⟩
  rw [byteAt_eq l j (by omega), byteAt_eq l (m + 1 + j) h]
  have e1 : (l.drop j).take (m + 1) = l[j] :: (l.drop (j + 1)).take m := by
    rw [List.drop_eq_getElem_cons (by omega), List.take_succ_cons]
  have e2 : (l.drop (j + 1)).take (m + 1) = (l.drop (j + 1)).take m ++ [l[m + 1 + j]] := by
    rw [List.take_succ_eq_append_getElem (by simp; omega)]
    simp only [List.getElem_drop]
    congr 3; omega
  have e3 : ((l.drop (j + 1)).take m).length = m := by simp; omega
  rw [e1, e2]
  have := next_weak l[j] l[m + 1 + j] ((l.drop (j + 1)).take m)
  rw [e3] at this
  rw [← this]
  congr 1
end Go.Proofs.YtimcafohmahapaaM

-- NumG
namespace Go.Proofs.Ytimcafohmahapaa.F
open Go Go.RowKit Go.Proofs.YtimcafohmahapaaW.PrintWords Go.Proofs.YtimcafohmahapaaW.PrintLast Go.Proofs.YtimcafohmahapaaW.PrintMore Go.Proofs.YtimcafohmahapaaM Go.Proofs.YtimcafohmahapaaR
set_option linter.unusedSimpArgs false
set_option linter.unusedVariables false
theorem rd_at (l : List Int) (i : Nat) (h : i < l.length) : rd l (i : Int) = l[i] := by unfold rd; simp [h]
theorem bt_at' (s : ByteArray) (i : Nat) (h : i < s.size) : bt s (i : Int) = (bytesOf s)[i]'(by rw [bytesOf_length]; exact h) := by
  rw [← rd_bytesOf]; exact rd_at _ _ (by rw [bytesOf_length]; exact h)
theorem bytesOf_byte (s : ByteArray) : ∀ x ∈ bytesOf s, 0 ≤ x ∧ x < 256 := by
  intro x hx
  obtain ⟨b, _, rfl⟩ := List.mem_map.1 hx
  have := b.toNat_lt
  omega
end Go.Proofs.Ytimcafohmahapaa.F

-- SgnC
namespace Go.Proofs.Ytimcafohmahapaa.F
open Go Go.RowKit Go.Proofs.YtimcafohmahapaaW.PrintWords Go.Proofs.YtimcafohmahapaaW.PrintLast Go.Proofs.YtimcafohmahapaaW.PrintMore Go.Proofs.YtimcafohmahapaaM Go.Proofs.YtimcafohmahapaaR
set_option linter.unusedSimpArgs false
set_option linter.unusedVariables false
theorem make16_f (a b : Int) (a0 : 0 ≤ a) (a1 : a < 4294967296) : roll_make16.f a b = some (a % 65536 + 65536 * (b % 65536)) := by
  unfold roll_make16.f; rw [make16_eq a b a0 a1]
theorem make16_c (a b : Int) (w : World) (a0 : 0 ≤ a) (a1 : a < 4294967296) :
    Calls Try.prog 41 #[.int .u32 a, .int .u32 b] w (Tells w (Is (.int .u32 (a % 65536 + 65536 * (b % 65536))))) :=
  tells_is ((roll_make16.calls a b _ w (make16_f a b a0 a1)).mono fun _ _ ⟨h, k⟩ => ⟨h, drawn_below k⟩)
theorem rd_append (pre : List Int) (c : Int) (post : List Int) : rd (pre ++ c :: post) (pre.length : Int) = c := by
  unfold rd; simp [List.getD]
theorem roll_l0 (l : List Int) (hl : l.length ≤ 140737488351232) (hb : ∀ x ∈ l, 0 ≤ x ∧ x < 256) :
    ∀ (post pre : List Int) (x y : Int) (k : Nat), l = pre ++ post → post.length < k → 0 ≤ x → x < 4294967296 → 0 ≤ y → y < 4294967296 →
      roll_Sum.l0 k x y l (l.length : Int) (pre.length : Int) = some (weakOf (AB (x, y) post)) := by
  intro post
  induction post with
  | nil =>
    intro pre x y k h hk x0 x1 y0 y1
    obtain ⟨k, rfl⟩ : ∃ m, k = m + 1 := ⟨k - 1, by omega⟩
    have : pre.length = l.length := by simp [h]
    simp only [roll_Sum.l0]; rw [if_neg (by omega), make16_f _ _ x0 x1]; simp [weakOf, AB]
  | cons c post ih =>
    intro pre x y k h hk x0 x1 y0 y1
    obtain ⟨k, rfl⟩ : ∃ m, k = m + 1 := ⟨k - 1, by simp at hk; omega⟩
    have hlen : l.length = pre.length + (post.length + 1) := by simp [h]
    have hc : rd l (pre.length : Int) = c := by rw [h]; exact rd_append pre c post
    have hc2 := hb c (by simp [h])
    simp only [roll_Sum.l0]
    rw [if_pos (by omega), if_pos (by omega), if_pos (by omega), hc, show wrap64 ((pre.length : Int) + 1) = ((pre ++ [c]).length : Int) from by unfold wrap64; simp; omega]
    rw [ih (pre ++ [c]) _ _ k (by simp [h]) (by simp at hk; omega) (by omega) (by omega) (by omega) (by omega)]
    rw [show AB (x, y) (c :: post) = AB (st (x,y) c) post from rfl]
    rw [AB_shift, AB_shift (st (x,y) c)]
    congr 1; apply weakOf_congr
    · simp only [st]; omega
    · simp only [st]
      have := mul_congr16 post.length ((x + c % 4294967296) % 4294967296) (x + c) (by omega)
      omega
theorem roll_f (l : List Int) (hl : l.length ≤ 140737488351232) (hb : ∀ x ∈ l, 0 ≤ x ∧ x < 256) (k : Nat) (hk : l.length < k) : roll_Sum.f k l = some (weak l) := by
  unfold roll_Sum.f
  exact roll_l0 l hl hb l [] 0 0 k rfl hk (by omega) (by omega) (by omega) (by omega)
theorem roll_c (A : Option Addr) (c : Nat) (l : List Int) (w : World) (hr : Kd.C (Kd.int .u8) w A l.length l) (hc : l.length ≤ c) (hl : l.length ≤ 140737488351232) (hb : ∀ x ∈ l, 0 ≤ x ∧ x < 256) :
    Calls Try.prog 31 #[.slice A l.length c] w (Tells w (Is (.int .u32 (weak l)))) :=
  tells_is ((roll_Sum.calls (l.length + 1) A c l _ w hr hc (roll_f l hl hb _ (by omega))).mono fun _ _ ⟨h, k⟩ => ⟨h, drawn_below k⟩)

theorem bt_byte (s : ByteArray) (i : Int) : 0 ≤ bt s i ∧ bt s i < 256 := by have := bt_range s i; omega
theorem rroll_l0 (s : ByteArray) (hs : s.size ≤ 140737488351232) :
    ∀ (post pre : List Int) (x y : Int) (k : Nat), bytesOf s = pre ++ post → post.length < k → 0 ≤ x → x < 18446744073709551616 → 0 ≤ y → y < 18446744073709551616 →
      strongroomref04_Sum.l0 k s x y (pre.length : Int) = some (weakOf (x + (AB (0,0) post).1, y + (AB (0,0) post).2)) := by
  intro post
  have hsl : (bytesOf s).length = s.size := bytesOf_length s
  induction post with
  | nil =>
    intro pre x y k h hk x0 x1 y0 y1
    obtain ⟨k, rfl⟩ : ∃ m, k = m + 1 := ⟨k - 1, by omega⟩
    have : pre.length = s.size := by rw [← hsl, h]; simp
    simp only [strongroomref04_Sum.l0]; rw [if_neg (by omega), Int.tmod_eq_emod_of_nonneg x0, Int.tmod_eq_emod_of_nonneg y0]
    simp only [u64_wrap, weakOf, AB, List.foldl_nil, Int.add_zero]
    congr 1
    omega
  | cons c post ih =>
    intro pre x y k h hk x0 x1 y0 y1
    obtain ⟨k, rfl⟩ : ∃ m, k = m + 1 := ⟨k - 1, by simp at hk; omega⟩
    have hlen : s.size = pre.length + (post.length + 1) := by rw [← hsl, h]; simp
    have hc : bt s (pre.length : Int) = c := by rw [← rd_bytesOf, h]; exact rd_append pre c post
    have hc2 := bt_byte s (pre.length : Int)
    rw [hc] at hc2
    simp only [strongroomref04_Sum.l0]
    rw [if_pos (by omega), if_pos (by omega), hc, show wrap64 ((pre.length : Int) + 1) = ((pre ++ [c]).length : Int) from by unfold wrap64; simp; omega]
    simp only [u64_wrap]
    rw [ih (pre ++ [c]) _ _ k (by simp [h]) (by simp at hk; omega) (by omega) (by omega) (by omega) (by omega)]
    rw [show AB (0, 0) (c :: post) = AB (st (0,0) c) post from rfl, AB_shift (st (0,0) c)]
    congr 1; apply weakOf_congr
    · simp only [st]; omega
    · simp only [st]
      have e : wrap64 ((s.size : Int) - (pre.length : Int)) = (post.length : Int) + 1 := by unfold wrap64; omega
      rw [e, show c % 18446744073709551616 = c from by omega, show ((post.length : Int) + 1) % 18446744073709551616 = (post.length : Int) + 1 from by omega]
      have : c * ((post.length : Int) + 1) = (post.length : Int) * c + c := by rw [Int.mul_add, Int.mul_comm]; omega
      rw [this]
      simp only [Int.zero_add]
      omega
theorem rroll_f (s : ByteArray) (hs : s.size ≤ 140737488351232) (k : Nat) (hk : s.size < k) : strongroomref04_Sum.f k s = some (weak (bytesOf s)) := by
  unfold strongroomref04_Sum.f
  have := rroll_l0 s hs (bytesOf s) [] 0 0 k rfl (by rw [bytesOf_length]; exact hk) (by omega) (by omega) (by omega) (by omega)
  simpa [weak] using this
theorem rroll_c (s : ByteArray) (w : World) (hs : s.size ≤ 140737488351232) :
    Calls Try.prog 42 #[.string s] w (Tells w (Is (.int .u32 (weak (bytesOf s))))) :=
  tells_is ((strongroomref04_Sum.calls (s.size + 1) s _ w (rroll_f s hs _ (by omega))).mono fun _ _ ⟨h, k⟩ => ⟨h, drawn_below k⟩)
end Go.Proofs.Ytimcafohmahapaa.F

-- F23
namespace Go.Proofs.Ytimcafohmahapaa.F
open Go.RowKit Go.Proofs.YtimcafohmahapaaW.PrintWords Go.Proofs.YtimcafohmahapaaW.PrintLast Go.Proofs.YtimcafohmahapaaW.PrintMore
attribute [local go_sem] max2_int min2_int max_two min_two max_three min_three max_four min_four   -- for this text's walks alone
set_option linter.unusedVariables false
set_option linter.unusedSimpArgs false

/-! ### sign_Blocks: function 23 -/
mutual
def sign_Blocks.j0 : Nat → ByteArray → Int → Bool → Option (List ByteArray × Int)
  | 0, _, _, _ => none
  | k + 1, x0, x1, x13 => if x13 = true then (some (([] : List ByteArray), 9)) else (if (x0.size : Int) > 1024 then (some (([] : List ByteArray), 2)) else (sign_Blocks.l0 k x0 x1 ([] : List ByteArray)))
def sign_Blocks.l0 : Nat → ByteArray → Int → List ByteArray → Option (List ByteArray × Int)
  | 0, _, _, _ => none
  | k + 1, x0, x1, x6 => if (x0.size : Int) > 0 then (if 0 ≤ (mn x1 (x0.size : Int)) then (if (mn x1 (x0.size : Int)) ≤ (x0.size : Int) then (if x6.length < 8796093022208 then (sign_Blocks.l0 k (x0.extract ((mn x1 (x0.size : Int)) : Int).toNat x0.size) x1 (x6 ++ [x0.extract 0 ((mn x1 (x0.size : Int)) : Int).toNat])) else (none)) else (none)) else (none)) else (some (x6, 0))
end
def sign_Blocks.f (k : Nat) (a0 : ByteArray) (a1 : Int) : Option (List ByteArray × Int) := if a1 < 1 then (sign_Blocks.j0 k a0 a1 true) else (sign_Blocks.j0 k a0 a1 (decide (a1 > 128)))
set_option maxHeartbeats 8000000 in
set_option maxRecDepth 100000 in
theorem sign_Blocks.calls (k : Nat) (a0 : ByteArray) (a1 : Int) (r1 : List ByteArray) (r2 : Int) (w : World) (h : sign_Blocks.f k a0 a1 = some (r1, r2)) :
    Calls Try.prog 23 #[.string a0, .int .i64 a1] w fun e w' => ∃ v0_ : Value, e = .returned (.tuple #[v0_, .int .i64 r2]) ∧ Kd.R Kd.string 9 w' w.heap.size (fun _ => True) v0_ r1 ∧ Below w.heap.size w w' := by
  have HB := Aside0.mk (Below.refl w.heap.size w)
  have H : (if a1 < 1 then (sign_Blocks.j0 k a0 a1 true) else (sign_Blocks.j0 k a0 a1 (decide (a1 > 128)))) = some (r1, r2) := h
  clear h
  have HC3 := Aside0.mk H
  clear H
  go_enter Try.func23, Try.ntmps23
  go_upto_region 1 with (fail)
  go_cut [13] (fun v13 wc => ∃ (kq : Nat) (x13_2 : Bool), v13 = .bool x13_2 ∧ Aside0 (sign_Blocks.j0 kq a0 a1 x13_2 = some (r1, r2)) ∧ Aside0 (kq ≤ k) ∧ Aside0 (Below w.heap.size w wc))
  case first =>
    have H := HC3.out
    clear HC3
    by_cases c4 : a1 < 1
    · rw [if_pos c4] at H
      have c4b0 : decide (a1 < 1) = true := decide_eq_true c4
      clear c4
      (first | rw [c4b0] | (simp only [i64_w, i32_w]; rw [c4b0]) | skip)
      have H' := Aside0.mk H
      clear H
      go_wp2
      go_meet
      case rel => exact ⟨_, (true), (by first | rfl | (simp; done) | (simp [*]; done)), H', ⟨by first | omega | exact Nat.le_refl _⟩, ⟨by repeat (first | (with_reducible first | exact HB.out | apply below_alloc | apply pw_below_drewN | apply below_drew1) | exact HB.out)⟩⟩
    · rw [if_neg c4] at H
      have c4b0 : decide (a1 < 1) = false := decide_eq_false c4
      clear c4
      (first | rw [c4b0] | (simp only [i64_w, i32_w]; rw [c4b0]) | skip)
      have H' := Aside0.mk H
      clear H
      go_wp2
      go_meet
      case rel => exact ⟨_, (decide (a1 > 128)), (by first | rfl | (simp; done) | (simp [*]; done)), H', ⟨by first | omega | exact Nat.le_refl _⟩, ⟨by repeat (first | (with_reducible first | exact HB.out | apply below_alloc | apply pw_below_drewN | apply below_drew1) | exact HB.out)⟩⟩
  case rest =>
    clear HC3
    try clear c2
    try clear p2
    try clear c4
    try clear c4b0
    obtain ⟨kq, x13_2, rfl, HA, HJ2, HB⟩ := hcut
    cases kq with
    | zero => exact absurd HA.out (by simp [sign_Blocks.j0])
    | succ kj2 =>
      have H := HA.out
      clear HA
      simp only [sign_Blocks.j0] at H
      by_cases c5 : x13_2 = true
      · subst c5
        have H1 : (some (([] : List ByteArray), 9)) = some (r1, r2) := by rw [if_pos rfl] at H; exact H
        clear H
        have H := H1
        clear H1
        simp only [Option.some.injEq, Prod.mk.injEq] at H
        obtain ⟨rfl, rfl⟩ := H
        go_wp2
        go_ret2
        exact ⟨_, by first | rfl | (simp [errW_none, errW_some] <;> rfl) | (simp [*, errW_none, errW_some] <;> rfl), by first | exact Kd.R_nil _ _ _ _ _ | exact Kd.N_nil _ _ _ _ _ | exact Kd.V_nil _ _ _ _ _ | exact Kd.Q_nil _ _ _ _ _ | exact Kd.S_nil _ _ _ _ _, by repeat (first | (with_reducible first | exact HB.out | apply below_alloc | apply pw_below_drewN | apply below_drew1) | exact HB.out)⟩
      · replace c5 := Bool.eq_false_iff.mpr c5
        subst c5
        have H1 : (if (a0.size : Int) > 1024 then (some (([] : List ByteArray), 2)) else (sign_Blocks.l0 kj2 a0 a1 ([] : List ByteArray))) = some (r1, r2) := by rw [if_neg (show ¬ (false = true) by decide)] at H; exact H
        clear H
        have H := H1
        clear H1
        by_cases c6 : (a0.size : Int) > 1024
        · rw [if_pos c6] at H
          have c6b0 : decide (1024 < (a0.size : Int)) = true := decide_eq_true c6
          have c6b1 : decide (1024 < a0.size) = true := decide_eq_true (by omega)
          clear c6
          simp only [Option.some.injEq, Prod.mk.injEq] at H
          obtain ⟨rfl, rfl⟩ := H
          go_wp2
          go_ret2
          exact ⟨_, by first | rfl | (simp [errW_none, errW_some] <;> rfl) | (simp [*, errW_none, errW_some] <;> rfl), by first | exact Kd.R_nil _ _ _ _ _ | exact Kd.N_nil _ _ _ _ _ | exact Kd.V_nil _ _ _ _ _ | exact Kd.Q_nil _ _ _ _ _ | exact Kd.S_nil _ _ _ _ _, by repeat (first | (with_reducible first | exact HB.out | apply below_alloc | apply pw_below_drewN | apply below_drew1) | exact HB.out)⟩
        · rw [if_neg c6] at H
          have c6b0 : decide (1024 < (a0.size : Int)) = false := decide_eq_false c6
          have c6b1 : decide (1024 < a0.size) = false := decide_eq_false (by omega)
          clear c6
          have H' := Aside0.mk H
          clear H
          go_wp2
          go_loopg [0, 6] kj2 (fun kq v0 v6 w' => ∃ (x0_2 : ByteArray) (x6_2 : List ByteArray), v0 = .string x0_2 ∧ Aside0 (sign_Blocks.l0 kq x0_2 a1 x6_2 = some (r1, r2)) ∧ Aside0 (kq ≤ kj2) ∧ Aside0 (Kd.R Kd.string 9 w' w.heap.size (fun _ => True) v6 x6_2) ∧ Aside0 (Below w.heap.size w w'))
          case atStart => exact ⟨(a0), (([] : List ByteArray)), (by first | rfl | (simp; done) | (simp [*]; done)), H', ⟨Nat.le_refl _⟩, ⟨by first | exact Kd.R_nil _ _ _ _ _ | exact Kd.N_nil _ _ _ _ _ | exact Kd.V_nil _ _ _ _ _ | exact Kd.Q_nil _ _ _ _ _ | exact Kd.S_nil _ _ _ _ _⟩, ⟨by repeat (first | (with_reducible first | exact HB.out | apply below_alloc | apply pw_below_drewN | apply below_drew1) | exact HB.out)⟩⟩
          case round =>
            clear H'
            try clear c2
            try clear p2
            try clear c4
            try clear c4b0
            try clear c5
            try clear c6
            try clear c6b0
            try clear c6b1
            try clear p2
            obtain ⟨x0_2, x6_2, rfl, HA, HK2, HO_6, HB⟩ := hrel
            cases gk with
            | zero => exact absurd HA.out (by simp [sign_Blocks.l0])
            | succ k2 =>
              have H := HA.out
              clear HA
              simp only [sign_Blocks.l0] at H
              by_cases c7 : (x0_2.size : Int) > 0
              · rw [if_pos c7] at H
                have c7b0 : decide (0 < (x0_2.size : Int)) = true := decide_eq_true c7
                have c7b1 : decide (0 < x0_2.size) = true := decide_eq_true (by omega)
                clear c7
                obtain ⟨ji8, hji8⟩ : ∃ j_ : Int, (mn a1 (x0_2.size : Int)) = j_ := ⟨_, rfl⟩
                replace H : (if 0 ≤ (ji8) then (if (ji8) ≤ (x0_2.size : Int) then (if x6_2.length < 8796093022208 then (sign_Blocks.l0 k2 (x0_2.extract ((ji8) : Int).toNat x0_2.size) a1 (x6_2 ++ [x0_2.extract 0 ((ji8) : Int).toNat])) else (none)) else (none)) else (none)) = some (r1, r2) := by first | (rw [hji8] at H; exact H) | (simp only [hji8] at H ⊢; exact H)
                have hji8_ : (if (x0_2.size : Int) < a1 then (x0_2.size : Int) else a1) = ji8 := hji8
                by_cases c9 : 0 ≤ (ji8)
                · rw [if_pos c9] at H
                  have c9b0 := eq_true c9
                  have c9b1 : decide (0 ≤ (ji8)) = true := decide_eq_true c9
                  clear c9
                  by_cases c10 : (ji8) ≤ (x0_2.size : Int)
                  · rw [if_pos c10] at H
                    have c10b0 := eq_true c10
                    have c10b1 : decide ((ji8) ≤ (x0_2.size : Int)) = true := decide_eq_true c10
                    clear c10
                    by_cases c11 : x6_2.length < 8796093022208
                    · rw [if_pos c11] at H
                      have LMc11 := Aside0.mk c11
                      clear c11
                      obtain ⟨y105, hy105⟩ : ∃ y_ : List ByteArray, y_ = (x6_2 ++ [x0_2.extract 0 ((ji8) : Int).toNat]) := ⟨_, rfl⟩
                      replace H : (sign_Blocks.l0 k2 (x0_2.extract ((ji8) : Int).toNat x0_2.size) a1 y105) = some (r1, r2) := by first | (rw [hy105]; with_reducible exact H) | (have H2_ := (Option.bind_some _ _).symm.trans H; rw [hy105]; with_reducible exact H2_) | (have H2_ := (Option.bind_some _ _).symm.trans H; with_reducible exact H2_) | with_reducible exact H | (rw [hy105]; exact H) | exact H
                      have Ny105 := Aside0.mk hy105
                      clear hy105
                      have c12b0 := eq_true (of_decide_eq_true (by first | (with_reducible assumption) | assumption) : 0 ≤ (ji8))
                      have c13b0 := eq_true (of_decide_eq_true (by first | (with_reducible assumption) | assumption) : (ji8) ≤ (x0_2.size : Int))
                      have H' := Aside0.mk H
                      clear H
                      go_wp2_with (first | ((with_reducible refine gate_builtin (b := .append) (xs := #[.tmp 24, .tmp 28]) rfl ?_); at_builtin; refine Kd.R_append Kd.string (w0 := w) w.heap.size rfl (.tmp 24) (.tmp 28) 50 9 (.string ⟨#[]⟩) 16 rfl Try.underlying50 info9 rfl (by decide) (by omega) u6 x6_2 (x0_2.extract 0 ((ji8) : Int).toNat) [.string (x0_2.extract 0 ((ji8) : Int).toNat)] (fun _ => True) (fun _ => False) rfl rfl ?aP (fun _ hk => hk.elim) ?aF ?aO ?aB ?aS ?aL ?_; (case aP => exact rfl); (case aB => exact (by repeat (first | (with_reducible first | exact HB.out | apply below_alloc | apply pw_below_drewN | apply below_drew1) | exact HB.out))); (case aF => exact (fun _ _ => trivial)); (case aO => exact (by (with_reducible repeat (first | apply Kd.R_alloc | apply Kd.R_drewN | apply Kd.R_drew)); exact HO_6.out)); (case aS => exact (below_size (by repeat (first | (with_reducible first | exact HB.out | apply below_alloc | apply pw_below_drewN | apply below_drew1) | exact HB.out)))); (case aL => have := LMc11.out; omega); intro v106 w14 ho hb hg hat; rw [← Ny105.out] at ho; have n0_ := Aside0.mk (hb); have n1_ := Aside0.mk (ho); clear HB; clear HO_6; have HB := n0_; have HO107 := n1_; clear n0_ n1_; clear ho hb hg hat))
                      go_roundg k2
                      case measure => have := HJ2.out; have := HK2.out; omega
                      case rel => exact ⟨(x0_2.extract ((ji8) : Int).toNat x0_2.size), (y105), (by first | rfl | (simp; done) | (simp only [← hji8] <;> (first | rfl | simp)) | (simp [*]; done)), H', ⟨by have := HJ2.out; have := HK2.out; omega⟩, ⟨by (with_reducible repeat (first | apply Kd.R_alloc | apply Kd.R_drewN | apply Kd.R_drew)); exact HO107.out⟩, ⟨by repeat (first | (with_reducible first | exact HB.out | apply below_alloc | apply pw_below_drewN | apply below_drew1) | exact HB.out)⟩⟩
                    · rw [if_neg c11] at H
                      exact absurd H (by simp)
                  · rw [if_neg c10] at H
                    exact absurd H (by simp)
                · rw [if_neg c9] at H
                  exact absurd H (by simp)
              · rw [if_neg c7] at H
                have c7b0 : decide (0 < (x0_2.size : Int)) = false := decide_eq_false c7
                have c7b1 : decide (0 < x0_2.size) = false := decide_eq_false (by omega)
                clear c7
                simp only [Option.some.injEq, Prod.mk.injEq] at H
                obtain ⟨rfl, rfl⟩ := H
                go_wp2
                go_ret2
                exact ⟨_, by first | rfl | (simp [errW_none, errW_some] <;> rfl) | (simp [*, errW_none, errW_some] <;> rfl), by (with_reducible repeat (first | apply Kd.R_alloc | apply Kd.R_drewN | apply Kd.R_drew)); exact HO_6.out, by repeat (first | (with_reducible first | exact HB.out | apply below_alloc | apply pw_below_drewN | apply below_drew1) | exact HB.out)⟩

end Go.Proofs.Ytimcafohmahapaa.F

-- SgnO
namespace Go.Proofs.Ytimcafohmahapaa.F
open Go Go.RowKit Go.Proofs.YtimcafohmahapaaW.PrintWords Go.Proofs.YtimcafohmahapaaW.PrintLast Go.Proofs.YtimcafohmahapaaW.PrintMore Go.Proofs.YtimcafohmahapaaM Go.Proofs.YtimcafohmahapaaR
attribute [local go_sem] max2_int min2_int max_two min_two
set_option linter.unusedSimpArgs false
set_option linter.unusedVariables false
set_option maxRecDepth 100000
theorem bytesOf_bytes (s : ByteArray) : bytes8' (bytesOf s) := by
  intro y hy
  unfold bytesOf at hy
  obtain ⟨b, -, rfl⟩ := List.mem_map.1 hy
  have := b.toNat_lt
  omega
theorem str_bytes (s : ByteArray) : strOfNums (bytesOf s) = s := by
  apply ByteArray.ext
  show ((s.data.toList.map fun b => (b.toNat : Int)).map fun n => UInt8.ofNat n.toNat).toArray = s.data
  rw [List.map_map]
  conv => rhs; rw [← Array.toArray_toList (xs := s.data)]
  congr 1
  conv => rhs; rw [← List.map_id s.data.toList]
  apply List.map_congr_left
  intro b _
  show UInt8.ofNat ((b.toNat : Int)).toNat = b
  rw [Int.toNat_natCast]
  exact UInt8.ofNat_toNat
/-- a block's strong sum -/
def strongS (k b : ByteArray) : ByteArray := (strOfNums (sealL (bytesOf k) (bytesOf b))).extract 0 16
set_option maxHeartbeats 2000000 in
theorem one_c (w : World) (key block : ByteArray) (hk : key.size ≤ 10000000) (hb : block.size ≤ 10000000) :
    Calls Try.prog 29 #[.string key, .string block] w (Tells w (Is (.agg #[.int .u32 (weak (bytesOf block)), .string (strongS key block)]))) := by
  have h1 := fun w => seal_c w (bytesOf key) (bytesOf block) (bytesOf_bytes _) (bytesOf_bytes _) (by rw [bytesOf_length]; omega) (by rw [bytesOf_length]; omega)
  obtain ⟨S, hS⟩ : ∃ S, S = strOfNums (sealL (bytesOf key) (bytesOf block)) := ⟨_, rfl⟩
  have hs32 : S.size = 32 := by rw [hS, str_size, sealL_len]
  simp only [← hS, str_bytes] at h1
  have hst : strongS key block = S.extract 0 16 := by unfold strongS; rw [hS]
  rw [hst]
  obtain ⟨P, hP⟩ : ∃ P, P = S.extract 0 16 := ⟨_, rfl⟩
  rw [← hP]
  obtain ⟨nb, hnb⟩ : ∃ nb, nb = block.size := ⟨_, rfl⟩
  have hnb' := hnb.symm
  have hby := fun W => print_bytes (P := Try.prog) 9 23 5 Try.underlying9 Try.underlying23 Try.underlying5 block W
  rw [hnb'] at hby
  have h2 := fun (W : World) => roll_c (some ⟨W.heap.size, 0, none⟩) (grownCap W nb 0 5) (bytesOf block) (Lib.bytesWorld W 5 block) (C_of (by
    have h := bytes_reads W 5 block (by omega)
    rw [← bytesOf_length] at h; exact h)) (by rw [bytesOf_length, hnb']; exact grownCap_ge _ _ _ _) (by rw [bytesOf_length]; omega) (bytesOf_bytes block)
  rw [bytesOf_length, hnb'] at h2
  obtain ⟨wk, hwk⟩ : ∃ wk, wk = weak (bytesOf block) := ⟨_, rfl⟩
  rw [← hwk] at h2 ⊢
  have hbw : ∀ (W : World), Grew W (Lib.bytesWorld W 5 block) := fun W => bytes_below (Below.refl _ _) (Nat.le_refl _) _ _
  have HBW := Lib.hid hbw
  have hsl : ∀ w', Sem.run Try.prog (Instr.slice 9 (.string S) none (some (.int .i64 16)) none) w' = .ok (.string P) w' := fun w' => by
    rw [run_slice_string_to_if w' _ S .i64 _ (by rfl), if_pos ⟨by omega, by rw [hs32]; omega⟩, hP]; rfl
  have H1 := Lib.hid h1
  have H2 := Lib.hid h2
  clear hk hb h1 h2 hS hst hP hnb hnb' hwk hs32 hbw
  go_enter Try.func29, Try.ntmps29
  have HB0 := Lib.hid (Blk.new w 64 [.int .u32 0, .string ⟨#[]⟩])
  have h2 := H2.out (w.alloc (.cells #[.int .u32 0, .string ⟨#[]⟩] 64))
  simp only [World.size_alloc] at h2
  go_wp2_with fail
  refine h2.mono ?_
  clear h2
  rintro e w1 ⟨_, rfl, rfl, hg1⟩
  go_wp2_with fail
  refine (H1.out w1).mono ?_
  rintro e w2 ⟨_, rfl, rfl, hg2⟩
  have hgg := Grew.trans (Grew.trans (HBW.out _) hg1) hg2
  have HB3 := Lib.hid (((HB0.out).grew hgg))
  go_wp2_with (refine wpList_store_blk (c := [.int .u32 wk, .string P]) HB3.out (by rfl) 64 (.tmp 4) (.tmp 12) (by rfl) (by rfl) (by rfl) (by kernel_rfl) (by rfl) (all_oneCell_toArray (by intro v hv; simp at hv; rcases hv with rfl | rfl <;> rfl)) ?_)
  refine bodyPost_ret (results_blk rfl _ (HB3.out.setRow [.int .u32 wk, .string P]) _ (by rfl) Try.underlying64 (by rfl) (by kernel_rfl)) rfl ?_
  exact ⟨_, rfl, rfl, Grew.setRow (Grew.trans (Grew.alloc w _) hgg) (Nat.le_refl _) _⟩
set_option maxHeartbeats 2000000 in
theorem rone_c (w : World) (key block : ByteArray) (hk : key.size ≤ 10000000) (hb : block.size ≤ 10000000) :
    Calls Try.prog 37 #[.string key, .string block] w (Tells w (Is (.agg #[.int .u32 (weak (bytesOf block)), .string (strongS key block)]))) := by
  have h1 := fun w => rseal_c w (bytesOf key) (bytesOf block) (bytesOf_bytes _) (bytesOf_bytes _) (by rw [bytesOf_length]; omega) (by rw [bytesOf_length]; omega)
  obtain ⟨S, hS⟩ : ∃ S, S = strOfNums (sealL (bytesOf key) (bytesOf block)) := ⟨_, rfl⟩
  have hs32 : S.size = 32 := by rw [hS, str_size, sealL_len]
  simp only [← hS, str_bytes] at h1
  have hst : strongS key block = S.extract 0 16 := by unfold strongS; rw [hS]
  rw [hst]
  obtain ⟨P, hP⟩ : ∃ P, P = S.extract 0 16 := ⟨_, rfl⟩
  rw [← hP]
  have h2 := fun (W : World) => rroll_c block W (by omega)
  obtain ⟨wk, hwk⟩ : ∃ wk, wk = weak (bytesOf block) := ⟨_, rfl⟩
  rw [← hwk] at h2 ⊢
  have hsl : ∀ w', Sem.run Try.prog (Instr.slice 9 (.string S) none (some (.int .i64 16)) none) w' = .ok (.string P) w' := fun w' => by
    rw [run_slice_string_to_if w' _ S .i64 _ (by rfl), if_pos ⟨by omega, by rw [hs32]; omega⟩, hP]; rfl
  have H1 := Lib.hid h1
  have H2 := Lib.hid h2
  have HB0 := Lib.hid (Blk.new w 64 [.int .u32 0, .string ⟨#[]⟩])
  clear hk hb h1 h2 hS hst hP hwk hs32
  go_enter Try.func37, Try.ntmps37
  go_wp2_with fail
  refine (H2.out _).mono ?_
  rintro e w1 ⟨_, rfl, rfl, hg1⟩
  go_wp2_with fail
  refine (H1.out w1).mono ?_
  rintro e w2 ⟨_, rfl, rfl, hg2⟩
  have hgg := Grew.trans hg1 hg2
  have HB3 := Lib.hid (((HB0.out).grew hgg))
  go_wp2_with (refine wpList_store_blk (c := [.int .u32 wk, .string P]) HB3.out (by rfl) 64 (.tmp 4) (.tmp 11) (by rfl) (by rfl) (by rfl) (by kernel_rfl) (by rfl) (all_oneCell_toArray (by intro v hv; simp at hv; rcases hv with rfl | rfl <;> rfl)) ?_)
  refine bodyPost_ret (results_blk rfl _ (HB3.out.setRow [.int .u32 wk, .string P]) _ (by rfl) Try.underlying64 (by rfl) (by kernel_rfl)) rfl ?_
  exact ⟨_, rfl, rfl, Grew.setRow (Grew.trans (Grew.alloc w _) hgg) (Nat.le_refl _) _⟩
end Go.Proofs.Ytimcafohmahapaa.F

-- DelM
namespace Go.Proofs.Ytimcafohmahapaa.F
open Go Go.RowKit Go.Proofs.YtimcafohmahapaaW.PrintWords Go.Proofs.YtimcafohmahapaaW.PrintLast Go.Proofs.YtimcafohmahapaaW.PrintMore Go.Proofs.YtimcafohmahapaaM Go.Proofs.YtimcafohmahapaaR
set_option linter.unusedSimpArgs false
set_option linter.unusedVariables false
set_option maxRecDepth 100000
abbrev Pc := S43
/-- may a piece be, behind one of that kind? -/
def okP (b : Bool) (p : Pc) : Bool := if p.f0 = true then decide (0 ≤ p.f1 ∧ p.f2.toList = []) else decide (p.f1 = 0 ∧ p.f2.toList ≠ [] ∧ b = false)
def mayDL : Bool → List Pc → Bool
  | _, [] => true
  | b, p :: l => okP b p && mayDL (!p.f0) l
def mayD (l : List Pc) : Bool := decide (l.length ≤ 1024) && mayDL false l
/-- is there one ahead, of bytes? -/
def prevD (pre : List Pc) : Bool := decide (0 < (pre.length : Int)) && !(rd_T43 pre ((pre.length : Int) - 1)).f0
theorem rd_midP (pre suf : List Pc) (e : Pc) : rd_T43 (pre ++ e :: suf) (pre.length : Int) = e := by
  unfold rd_T43; simp [List.getD]
theorem prevD_snoc (pre : List Pc) (e : Pc) : prevD (pre ++ [e]) = !e.f0 := by
  unfold prevD
  rw [List.length_append, List.length_singleton, decide_eq_true (by omega), Bool.true_and]
  rw [show ((pre.length + 1 : Nat) : Int) - 1 = (pre.length : Int) from by omega, rd_midP pre [] e]
theorem rd_ahead {pre suf : List Pc} {e : Pc} (h : 0 < (pre.length : Int)) : rd_T43 (pre ++ e :: suf) ((pre.length : Int) - 1) = rd_T43 pre ((pre.length : Int) - 1) := by
  unfold rd_T43
  rw [List.getD_eq_getElem?_getD, List.getD_eq_getElem?_getD, List.getElem?_append_left (by omega)]
theorem chk_l0 (l : List Pc) (hl : l.length ≤ 100000) : ∀ (suf pre : List Pc) (k : Nat), l = pre ++ suf → suf.length + 1 ≤ k →
    delta_Check.l0 k l l (l.length : Int) (pre.length : Int) = some (cond (mayDL (prevD pre) suf) 0 1) := by
  intro suf
  induction suf with
  | nil =>
    intro pre k hp hk
    obtain ⟨k, rfl⟩ : ∃ m, k = m + 1 := ⟨k - 1, by omega⟩
    have : pre.length = l.length := by rw [hp]; simp
    simp only [delta_Check.l0, mayDL]
    rw [if_neg (by omega)]
    rfl
  | cons e suf ih =>
    intro pre k hp hk
    obtain ⟨k, rfl⟩ : ∃ m, k = m + 1 := ⟨k - 1, by simp at hk; omega⟩
    have hlen : pre.length + (suf.length + 1) = l.length := by rw [hp]; simp
    have hrd : rd_T43 l (pre.length : Int) = e := by rw [hp]; exact rd_midP pre suf e
    have ihk := ih (pre ++ [e]) k (by rw [hp]; simp) (by simp at hk; omega)
    rw [show (((pre ++ [e]).length : Nat) : Int) = (pre.length : Int) + 1 from by simp, prevD_snoc] at ihk
    simp only [delta_Check.l0, mayDL]
    rw [if_pos (by omega), if_pos (by omega), if_pos (by omega), hrd, w64 (x := (pre.length : Int) + 1) (by omega) (by omega), w64 (x := (pre.length : Int) - 1) (by omega) (by omega), ihk]
    have hprev : prevD pre = (decide (0 < (pre.length : Int)) && !(rd_T43 l ((pre.length : Int) - 1)).f0) := by
      by_cases h : 0 < (pre.length : Int)
      · unfold prevD; rw [hp, rd_ahead h]
      · unfold prevD; rw [decide_eq_false h]; rfl
    rw [hprev]
    generalize rd_T43 l ((pre.length : Int) - 1) = q at *
    have hq : ∀ n : Int, 0 ≤ (pre.length : Int) - 1 ↔ 0 < (pre.length : Int) := fun _ => by omega
    have hq2 : (pre.length : Int) - 1 < (l.length : Int) := by omega
    clear ihk ih hprev hrd
    by_cases h0 : e.f0 = true
    · have ho : okP (decide (0 < (pre.length : Int)) && !q.f0) e = decide (0 ≤ e.f1 ∧ e.f2.toList = []) := by unfold okP; rw [if_pos h0]
      rw [ho]
      repeat rw [if_pos h0]
      by_cases h1 : e.f1 ≥ 0
      · rw [if_pos h1]
        by_cases h2 : e.f2.toList = []
        · rw [if_pos h2, decide_eq_true (p := 0 ≤ e.f1 ∧ e.f2.toList = []) ⟨h1, h2⟩, Bool.true_and]
          by_cases h3 : (pre.length : Int) > 0
          · rw [if_pos h3]
          · rw [if_neg h3]
        · rw [if_neg h2, decide_eq_false (p := 0 ≤ e.f1 ∧ e.f2.toList = []) (fun h => h2 h.2)]; rfl
      · rw [if_neg h1, decide_eq_false (p := 0 ≤ e.f1 ∧ e.f2.toList = []) (fun h => h1 h.1)]; rfl
    · have ho : okP (decide (0 < (pre.length : Int)) && !q.f0) e = decide (e.f1 = 0 ∧ e.f2.toList ≠ [] ∧ (decide (0 < (pre.length : Int)) && !q.f0) = false) := by unfold okP; rw [if_neg h0]
      rw [ho]
      repeat rw [if_neg h0]
      by_cases h1 : e.f1 = 0
      · rw [if_pos h1]
        by_cases h2 : e.f2.toList = []
        · rw [if_neg (fun h => h h2), decide_eq_false (p := e.f1 = 0 ∧ e.f2.toList ≠ [] ∧ _) (fun h => h.2.1 h2)]; rfl
        · rw [if_pos h2]
          by_cases h3 : (pre.length : Int) > 0
          · rw [if_pos h3, if_pos (by omega), if_pos hq2, decide_eq_true (p := 0 < (pre.length : Int)) h3, Bool.true_and]
            by_cases h4 : q.f0 = true
            · rw [if_pos h4, h4, decide_eq_true (p := e.f1 = 0 ∧ e.f2.toList ≠ [] ∧ (!true) = false) ⟨h1, h2, rfl⟩, Bool.true_and]
            · rw [if_neg h4, decide_eq_false (p := e.f1 = 0 ∧ e.f2.toList ≠ [] ∧ (!q.f0) = false) (fun h => h4 (by simpa using h.2.2))]; rfl
          · rw [if_neg h3, decide_eq_false (p := 0 < (pre.length : Int)) h3, Bool.false_and, decide_eq_true (p := e.f1 = 0 ∧ e.f2.toList ≠ [] ∧ false = false) ⟨h1, h2, rfl⟩, Bool.true_and]
      · rw [if_neg h1, decide_eq_false (p := e.f1 = 0 ∧ e.f2.toList ≠ [] ∧ _) (fun h => h1 h.1)]; rfl
theorem chk_f (k : Nat) (l : List Pc) (hk : 1026 ≤ k) : delta_Check.f k l = some (cond (mayD l) 0 1) := by
  unfold delta_Check.f mayD
  by_cases h : (l.length : Int) > 1024
  · rw [if_pos h, decide_eq_false (by omega)]; rfl
  · rw [if_neg h, decide_eq_true (by omega), Bool.true_and]
    have := chk_l0 l (by omega) l [] k rfl (by omega)
    exact this
/-- a piece that was right -/
structure PcOk (p : Pc) : Prop where
  copy : p.f0 = true → 0 ≤ p.f1 ∧ p.f2 = ⟨#[]⟩ ∧ p.f1 ≤ 9223372036854775807
  data : p.f0 = false → p.f1 = 0 ∧ p.f2.size ≤ 140737488355328
theorem tl_iff (x y : ByteArray) : x.toList = y.toList ↔ x = y := ⟨fun h => by rw [ByteArray.toList_eq, ByteArray.toList_eq] at h; exact ByteArray.ext (Array.toList_inj.1 h), fun h => by rw [h]⟩
theorem size_toList (s : ByteArray) : s.toList = [] ↔ s = ⟨#[]⟩ :=
  ⟨fun h => by rw [ByteArray.toList_eq] at h; exact ByteArray.ext (Array.toList_inj.1 h), fun h => by rw [h, ByteArray.toList_eq]⟩
end Go.Proofs.Ytimcafohmahapaa.F

-- F8
namespace Go.Proofs.Ytimcafohmahapaa.F
open Go.RowKit Go.Proofs.YtimcafohmahapaaW.PrintWords Go.Proofs.YtimcafohmahapaaW.PrintLast Go.Proofs.YtimcafohmahapaaW.PrintMore
attribute [local go_sem] max2_int min2_int max_two min_two max_three min_three max_four min_four   -- for this text's walks alone
set_option linter.unusedVariables false
set_option linter.unusedSimpArgs false

end Go.Proofs.Ytimcafohmahapaa.F

-- Grp
namespace Go.Proofs.Ytimcafohmahapaa.F
open Go Go.RowKit Go.Proofs.YtimcafohmahapaaW.PrintWords Go.Proofs.YtimcafohmahapaaW.PrintLast Go.Proofs.YtimcafohmahapaaW.PrintMore Go.Proofs.YtimcafohmahapaaR
open Go.ChangeMaps Go.MapKept Go.ChangeShapes
open Go.WideElems (Fit rd rg pl rd_val elemAt)
open Go.Maps (Keyed)
set_option linter.unusedSimpArgs false
set_option linter.unusedVariables false
section
variable {H : Type} {P : Program} {k : TypeId} {w w' : World} {base : Nat} {e : TypeId} {q : IntKind} {b n : Nat} {D : DataW H}
theorem ints_move {v : Value} {zs : List Int} (h : w.ownsInts base e q v zs) (hm : ∀ g, v.ownBlock = some g → w'.heap[g]? = w.heap[g]?) : w'.ownsInts base e q v zs := ⟨own_move h.1 hm, h.2⟩
theorem own_cells {size n : Nat} {v : Value} {xs : List Value} (h : w.ownsRow base e size v n xs) {g : Nat} (hg : v.ownBlock = some g) : ∃ cur, w.heap[g]? = some (.cells cur e (0, 0)) := by
  rcases h.2 with ⟨rfl, _⟩ | ⟨g', cap, cur, rfl, _, hh, _⟩
  · simp [Value.ownBlock] at hg
  · have : g' = g := by simpa [Value.ownBlock] using hg
    subst this
    exact ⟨cur, hh⟩
theorem groups_move (h : w.ownsGroups P k base e q b n D) (hb' : w'.heap[b]? = w.heap[b]?)
    (hrow : ∀ g, base ≤ g → g < w.heap.size → (∃ cur, w.heap[g]? = some (.cells cur e (0, 0))) → (∀ es clock, w.heap[b]? = some (.map es clock) → ∃ x ∈ es.toList, x.val.ownBlock = some g) → w'.heap[g]? = w.heap[g]?) : w'.ownsGroups P k base e q b n D := by
  obtain ⟨es, clock, hb, F, hs, rfl, hbb, hlen, hap⟩ := h
  have hmv : ∀ x ∈ es.toList, ∀ zs, w.ownsInts base e q x.val zs → w'.ownsInts base e q x.val zs := fun x hx zs ho => ints_move ho fun g hg => hrow g (ho.1.lt g hg).1 (ho.1.lt g hg).2 (own_cells ho.1 hg) fun es' clock' hb2 => by
    obtain ⟨rfl, rfl⟩ : es = es' ∧ clock = clock' := by rw [hb] at hb2; simpa using hb2
    exact ⟨x, hx, hg⟩
  have hst : ∀ x ∈ es.toList, ∀ z, rowElem (H := H) w base e q x.val = some z → rowElem w' base e q x.val = some z := fun x hx z hz => by
    obtain ⟨zs, ho, rfl⟩ := rowElem_inv hz
    exact rowElem_mk (hmv x hx zs ho)
  obtain ⟨F1, hmap, _⟩ := F.stay hst
  refine ⟨es, clock, hb'.trans hb, F1, hs, by rw [hmap], hbb, fun x hx zs ho => ?_, hap⟩
  obtain ⟨y, hy⟩ := F.reads x hx
  obtain ⟨z, hz, _⟩ := rd_val hy
  obtain ⟨zs0, ho0, _⟩ := rowElem_inv hz
  rw [ho.unique (hmv x hx zs0 ho0)]
  exact hlen x hx zs0 ho0
theorem groups_upd {S : Nat → Prop} (h : w.ownsGroups P k base e q b n D) (hu : Upd S w w') (hb : ¬ S b) (hS : ∀ g, base ≤ g → ¬ S g) : w'.ownsGroups P k base e q b n D := by
  have hlt : b < w.heap.size := by
    obtain ⟨es, clock, hb, _⟩ := h
    exact (Array.getElem?_eq_some_iff.1 hb).1
  exact groups_move h (hu.block b hlt hb) fun g hg hg2 _ _ => hu.block g hg2 (hS g hg)
theorem groups_lt (h : w.ownsGroups P k base e q b n D) : b < w.heap.size ∧ b < base := by
  obtain ⟨es, clock, hb, _, _, _, hbb, _⟩ := h
  exact ⟨(Array.getElem?_eq_some_iff.1 hb).1, hbb⟩
/-- a look-up, in whatever world that has this map -/
theorem groups_at {t E : TypeId} {key : Value} {kl : Lit} (h : w.ownsGroups P k base e q b n D) (K : Keyed P k) (ht : P.underlying t = some (.map k E)) (hz : ∀ w, (zeroValue E).run P w = .ok (.slice none 0 0) w) (hn : n < maxLen) (hkey : keyOf P k key = some kl) :
    ∃ v zs, (∀ wx : World, wx.heap[b]? = w.heap[b]? → (Instr.lookup t (.map (some b)) key false).run P wx = .ok v wx) ∧ D.atKey kl .nil = rowDatum q v zs ∧ w.ownsInts base e q v zs ∧ zs.length ≤ n ∧ w.groupBack P t k base e q b n D key kl v ∧ (∀ No : Nat → Prop, w.Shuns b No → ∀ g, v.ownBlock = some g → ¬ No g) := by
  obtain ⟨es, clock, hb, F, hs, rfl, hbb, hlen, hap⟩ := h
  rcases Maps.fit_look false K ht (hz w) hb F hkey with ⟨hrun, hno, hat⟩ | ⟨e0, y, hm0, h3, hrun, hR, hat, _⟩
  · refine ⟨.slice none 0 0, [], fun wx hx => ?_, hat _, World.ownsInts_nil _ _ _ _, Nat.zero_le _, groups_back K ht hb F hs hn hbb hlen hap hkey (fun x _ _ => ?_) (by simp [Value.ownBlock]), fun _ _ g hg => by cases hg⟩
    · rcases Maps.fit_look false K ht (hz wx) (hx.trans hb) F hkey with ⟨hr, _, _⟩ | ⟨e0, y, hm0, h3, _⟩
      · exact hr
      · exact absurd h3 (hno e0 hm0)
    · cases x.val.ownBlock <;> simp [Value.ownBlock]
  · obtain ⟨zs, ho, rfl⟩ := rowElem_inv hR
    refine ⟨e0.val, zs, fun wx hx => ?_, hat _, ho, hlen e0 hm0 zs ho, groups_back K ht hb F hs hn hbb hlen hap hkey (fun x hx hne => hap x hx e0 hm0 (by rw [h3]; exact hne)) (fun e1 => ?_), fun No hsh g hg => hsh es clock hb e0 hm0 g hg⟩
    · rcases Maps.fit_look false K ht (hz wx) (hx.trans hb) F hkey with ⟨hr, hno, _⟩ | ⟨e1, y, hm1, h4, hr, _⟩
      · exact absurd h3 (hno e0 hm0)
      · have := entry_eq_of_key ((stamped_iff _ _).1 F.stamped).2.2 hm1 hm0 (h4.trans h3.symm)
        rw [this] at hr
        exact hr
    · have := (ho.1.lt b e1).1
      omega
/-- behind a store by the way back, the groups still shun what they shunned -/
theorem back_shuns {t E : TypeId} {key : Value} {kl : Lit} {w0 w1 w2 : World} {v v' : Value} {zs : List Int} {No : Nat → Prop} (K : Keyed P k) (ht : P.underlying t = some (.map k E)) (hkey : keyOf P k key = some kl) (hown0 : w0.ownsGroups P k base e q b n D) (hn : n < maxLen) (hu : w0.ownsInts base e q v zs) (hsh : w0.Shuns b No) (hno : ∀ g, v'.ownBlock = some g → ¬ No g)
    (hgr : w0.grownBy w1 v.ownBlock) (hrun : (Instr.mapUpdate t (.map (some b)) key v').run P w1 = .ok () w2) : w2.Shuns b No := by
  obtain ⟨es, clock, hb, F, hs, _, hbb, _⟩ := hown0
  have hblt : b < w0.heap.size := (Array.getElem?_eq_some_iff.1 hb).1
  have hb1 : w1.heap[b]? = some (.map es clock) := (hgr.block b hblt (fun e1 => by have := (hu.1.lt b e1.symm).1; omega)).trans hb
  obtain ⟨es', clock', hb2, hwho⟩ := stored_who K ht hb1 F (Nat.lt_of_le_of_lt hs hn) hkey hrun
  intro es2 clock2 hb2' y hy g hyg
  obtain ⟨rfl, rfl⟩ : es' = es2 ∧ clock' = clock2 := by rw [hb2] at hb2'; simpa using hb2'
  rcases hwho y hy with ⟨hy0, _⟩ | ⟨_, hval⟩
  · exact hsh es clock hb y hy0 g hyg
  · exact hno g (hval ▸ hyg)
theorem shuns_move {No : Nat → Prop} (h : w.Shuns b No) (hb : w'.heap[b]? = w.heap[b]?) : w'.Shuns b No := fun es clock hb' => h es clock (hb.symm.trans hb')
theorem late_upd {W wx : World} {row : Option Nat} (h : Grew W wx ∨ ∃ w1, Grew W w1 ∧ w1.grownBy wx row) : Upd (fun k => row = some k) W wx := by
  rcases h with h | ⟨w1, h1, h2⟩
  · exact Upd.of_grew h
  · exact (Upd.of_grew h1).grown h2 fun k hk => .inl hk
theorem Upd.grownBy_none {a b : World} (h : Upd (fun _ => False) a b) (row : Option Nat) : a.grownBy b row := ⟨h.os, h.tape, h.output, h.size, fun i hi _ => h.block i hi (fun h => h)⟩
/-- a slice of one element of some cells in a block of its own, which is not the row that is written -/
def OneC (e : TypeId) (cs : List Value) (vb : Value) : World → Value → Prop := fun w v => ∃ g1, v = .slice (some ⟨g1, 0, none⟩) 1 1 ∧ Blk w g1 e cs ∧ some g1 ≠ vb.ownBlock
theorem OneC.stableB (e : TypeId) (cs : List Value) (vb : Value) : ∀ w w' v, Grew w w' ∨ w.grownBy w' vb.ownBlock → OneC e cs vb w v → OneC e cs vb w' v :=
  fun _ _ _ hr ⟨g1, h1, h2, h3⟩ => ⟨g1, h1, hr.elim h2.grew (fun hg => blk_grown h2 hg h3), h3⟩
theorem OneC.new {w : World} {e : TypeId} {cs : List Value} {vb : Value} (h : ∀ k, vb.ownBlock = some k → k < w.heap.size) : OneC e cs vb (w.alloc (.cells cs.toArray e)) (.slice (some ⟨w.heap.size, 0, none⟩) 1 1) :=
  ⟨_, rfl, Blk.new w e cs, fun he => by have := h _ he.symm; omega⟩
/-- the row behind an append -/
def AppS (base : Nat) (e : TypeId) (size : Nat) (cs : List Value) (n : Nat) (vb : Value) (N : Nat) : World → Value → Prop := fun w v => w.ownsRow base e size v n cs ∧ (v.ownBlock = vb.ownBlock ∨ ∃ k, v.ownBlock = some k ∧ N ≤ k)
/-- one element, of some cells in a block of its own, behind a row of one's own -/
theorem app_cells {P : Program} (W : World) (base : Nat) (t e ty : TypeId) (z : Value) (size bytes : Nat) (ht : P.underlying t = some (.slice e)) (hinfo : (P.info? e).map (fun i => (i.zero, i.size, i.bytes)) = some (some z, size, bytes)) (hz : z.cells.size = size) (hs0 : 0 < size) (hb0 : 0 < bytes)
    (v : Value) (n : Nat) (xs : List Value) (g1 : Nat) (cs : List Value) (hcs : cs.length = size) (h1 : ∀ u ∈ cs, u.oneCell' = true) (HO : W.ownsRow base e size v n xs) (HB : Blk W g1 e cs) (hbase : base ≤ W.heap.size) (hl : (n + 1) * bytes ≤ 140737488355328) :
    ∃ v1 w1, (Builtin.append_ #[t, t] ty #[v, .slice (some ⟨g1, 0, none⟩) 1 1]).run P W = .ok v1 w1 ∧ w1.ownsRow base e size v1 (n + 1) (xs ++ cs) ∧ W.grownBy w1 v.ownBlock ∧ (v1.ownBlock = v.ownBlock ∨ ∃ k, v1.ownBlock = some k ∧ W.heap.size ≤ k) := by
  obtain ⟨i0, hi, hzz⟩ := Option.map_eq_some_iff.1 hinfo
  simp only [Prod.mk.injEq] at hzz
  obtain ⟨hz0, hz1, hz2⟩ := hzz
  have hlen : n + 1 ≤ 140737488355328 := Nat.le_trans (Nat.le_mul_of_pos_right _ hb0) hl
  obtain ⟨v1, w1, hr, h2, h3, _, h5⟩ := run_append_own_at (P := P) W base t ty e i0 z size bytes ht hi hz0 hz1 hz2 hz hs0 v n xs HO ⟨g1, 0, none⟩ 1 1 cs (by rw [hcs]; simp)
    (fun j u hu => by rw [add_plain, HB.at_]; simpa using hu) h1 (by simp only [maxLen]; omega) hl hbase
  exact ⟨v1, w1, hr, h2, h3, h5.imp id fun h => ⟨_, h, Nat.le_refl _⟩⟩
/-- a store into a map by the equation of its run -/
theorem wpList_mapUpdate_run {P : Program} {w w2 : World} {ops : Array Oper} {rest : List Oper} {o : Oper} {a : Act} {Q : Exit → Act → World → Prop}
    (hg : o.guard = none) (m x v : Operand) (t : TypeId) (hop : o.op = Op.mapUpdate t m x v) {vm vx vv : Value} (hm : a.eval m = vm) (hx : a.eval x = vx) (hv : a.eval v = vv)
    (hrun : (Instr.mapUpdate t vm vx vv).run P w = .ok () w2) (hK : wpList P ops Q rest (a.put o.dst undef) w2) : wpList P ops Q (o :: rest) a w := by
  refine wpList_plain hg fun K' hK' => ?_
  unfold Oper.wp
  simp [execOp, hop, hm, hx, hv, hrun, Result.andThen]
  exact hK' _ _ hK
end
end Go.Proofs.Ytimcafohmahapaa.F

-- DelN
namespace Go.Proofs.Ytimcafohmahapaa.F
open Go Go.RowKit Go.Proofs.YtimcafohmahapaaW.PrintWords Go.Proofs.YtimcafohmahapaaW.PrintLast Go.Proofs.YtimcafohmahapaaW.PrintMore Go.Proofs.YtimcafohmahapaaM Go.Proofs.YtimcafohmahapaaR
attribute [local go_sem] max2_int min2_int max_two min_two
set_option linter.unusedSimpArgs false
set_option linter.unusedVariables false
set_option maxRecDepth 100000
theorem strN_extractD (s : ByteArray) (i j : Nat) (hj : j ≤ s.size) : s.extract i j = strOfNums (((bytesOf s).take j).drop i) := by
  apply ByteArray.ext
  apply Array.toList_inj.1
  have e : ∀ l : List UInt8, List.map (fun z : Int => UInt8.ofNat z.toNat) (l.map fun b => (b.toNat : Int)) = l := by
    intro l; simp [Function.comp_def]
  unfold strOfNums bytesOf
  rw [← List.map_take, ← List.map_drop]
  simp [ByteArray.data_extract, List.drop_take]
  rw [← List.map_map, e]
/-- pieces that are told, and an error's number -/
def DecT (r : List Pc × Int) : World → Value → Prop := fun w v => ∃ A c, v = .tuple #[.slice A r.1.length c, .int .i64 r.2] ∧ r.1.length ≤ c ∧ Kd.C k43 w A r.1.length r.1
theorem chk_c (A : Option Addr) (c : Nat) (l : List Pc) (w : World) (hr : Kd.C k43 w A l.length l) (hc : l.length ≤ c) :
    Calls Try.prog 22 #[.slice A l.length c] w (Tells w (Is (.int .i64 (cond (mayD l) 0 1)))) :=
  tells_is ((delta_Check.calls 1026 A c l _ w hr hc (chk_f 1026 l (Nat.le_refl _))).mono fun _ _ h => h)
theorem eqPc (d : Nat) (w : World) (x0 : Bool) (x1 : Int) (x2 : ByteArray) (y0 : Bool) (y1 : Int) (y2 : ByteArray) :
    (Op.equalIn (d + 2) 43 (.agg #[.bool x0, .int .i64 x1, .string x2]) (.agg #[.bool y0, .int .i64 y1, .string y2])).run Try.prog w = .ok (x0 == y0 && (x1 == y1 && (x2.toList == y2.toList))) w := by
  refine eqA_of Try.underlying43 (by kernel_rfl) ?_
  refine eqf_cons (by rfl) (by go_simp; rfl) (by go_simp; rfl) (by go_simp) ?_
  refine eqf_cons (by rfl) (by go_simp; rfl) (by go_simp; rfl) (by go_simp) ?_
  exact eqf_last (by rfl) (by go_simp; rfl) (by go_simp; rfl) (by go_simp)
set_option maxHeartbeats 4000000 in
theorem same_c (A1 A2 : Option Addr) (n c1 c2 : Nat) (l : List Pc) (w : World) (h1 : Kd.C k43 w A1 n l) (h2 : Kd.C k43 w A2 n l) (hn : l.length = n) (hc1 : n ≤ c1) (hc2 : n ≤ c2) (hn2 : n ≤ 100000) :
    Calls Try.prog 12 #[.slice A1 n c1, .slice A2 n c2] w (Tells w (Is (.bool true))) := by
  have HN := Lib.hid hn
  have HC1 := Lib.hid (fun wx (h : Grew w wx) => Kd.C_below h1 h)
  have HC2 := Lib.hid (fun wx (h : Grew w wx) => Kd.C_below h2 h)
  have HEQ := Lib.hid (fun (x : Pc) (w' : World) => show (Op.equalIn 10000 43 (.agg #[.bool x.f0, .int .i64 x.f1, .string x.f2]) (.agg #[.bool x.f0, .int .i64 x.f1, .string x.f2])).run Try.prog w' = .ok true w' from by
    have h := eqPc 9998 w' x.f0 x.f1 x.f2 x.f0 x.f1 x.f2
    simpa using h)
  have nn : ((n : Int) != (n : Int)) = false := by simp
  clear h1 h2 hn
  go_enter Try.func12, Try.ntmps12
  go_wp2_with fail
  go_loopw [5] (fun iv wr => ∃ i : Nat, iv = .int .i64 (i : Int) ∧ i ≤ n ∧ Grew w wr) (fun iv _ => n - (intOf iv).toNat)
  case atStart => exact ⟨0, rfl, Nat.zero_le _, Grew.refl _⟩
  case round =>
    obtain ⟨i, rfl, hi, hgr⟩ := hrel
    by_cases hlt : i < n
    · have d1 : decide ((i : Int) < (n : Int)) = true := decide_eq_true (by omega)
      have d2 : decide (i < n) = true := decide_eq_true hlt
      have i1 : (i : Int) < (n : Int) := by omega
      obtain ⟨ad1, rfl, a0, a1, a2⟩ := at_T43 (HC1.out wr hgr) (i : Int) (by omega) i1
      obtain ⟨ad2, rfl, b0, b1, b2⟩ := at_T43 (HC2.out wr hgr) (i : Int) (by omega) i1
      obtain ⟨e, he⟩ : ∃ e, e = rd_T43 l (i : Int) := ⟨_, rfl⟩
      rw [Int.toNat_natCast, ← he] at a0 a1 a2 b0 b1 b2
      have heq := HEQ.out e
      obtain ⟨s, t, k⟩ := e
      simp only at a0 a1 a2 b0 b1 b2 heq
      have HA := Lib.hid (fun wx (h : Grew wr wx) => And.intro (pw_cell_below h a0) (And.intro (pw_cell_below h a1) (pw_cell_below h a2)))
      have HBc := Lib.hid (fun wx (h : Grew wr wx) => And.intro (pw_cell_below h b0) (And.intro (pw_cell_below h b1) (pw_cell_below h b2)))
      have HEE := Lib.hid heq
      have HGR := Lib.hid hgr
      clear a0 a1 a2 b0 b1 b2 he heq hgr
      go_wp2_with fail
      apply region_grew [Is _, Is _, Is _, Is _, Is _, Is _, Is _, Is _] [([(0, none)], none), ([(5, none)], none), ([(17, some 0), (18, some 1)], none), ([(19, some 2)], none), ([(1, none)], none), ([(5, none)], none), ([(21, some 4), (22, some 5)], none), ([(23, some 6)], none)] [(17, 0), (18, 1), (19, 2), (20, 3), (21, 4), (22, 5), (23, 6), (24, 7)] rfl (by kernel_rfl) (by kernel_rfl) (show Stable Grew _ from ⟨Is.stable _, Is.stable _, Is.stable _, Is.stable _, Is.stable _, Is.stable _, Is.stable _, Is.stable _, trivial⟩)
      · show OpsHold _ _ _ _ _ _ _ _ _
        refine ⟨fun a_ wx hR hD K hK => ?_, ?_⟩
        · have hG : Grew wr wx := (Grew.drew _).trans hR
          simp [Deps, Dep, at_, Is] at hD
          go_simp
          exact hK _ _ (Grew.refl _) rfl
        refine ⟨fun a_ wx hR hD K hK => ?_, ?_⟩
        · have hG : Grew wr wx := (Grew.drew _).trans hR
          simp [Deps, Dep, at_, Is] at hD
          go_simp
          exact hK _ _ (Grew.refl _) rfl
        refine ⟨fun a_ wx hR hD K hK => ?_, ?_⟩
        · have hG : Grew wr wx := (Grew.drew _).trans hR
          simp [Deps, Dep, at_, Is] at hD
          obtain ⟨hd0, hd1⟩ := hD
          go_simp
          exact hK _ _ (Grew.refl _) rfl
        refine ⟨fun a_ wx hR hD K hK => ?_, ?_⟩
        · have hG : Grew wr wx := (Grew.drew _).trans hR
          simp [Deps, Dep, at_, Is] at hD
          obtain ⟨e0, e1, e2⟩ := HA.out wx hG
          go_simp
          exact hK _ _ (Grew.refl _) rfl
        refine ⟨fun a_ wx hR hD K hK => ?_, ?_⟩
        · have hG : Grew wr wx := (Grew.drew _).trans hR
          simp [Deps, Dep, at_, Is] at hD
          go_simp
          exact hK _ _ (Grew.refl _) rfl
        refine ⟨fun a_ wx hR hD K hK => ?_, ?_⟩
        · have hG : Grew wr wx := (Grew.drew _).trans hR
          simp [Deps, Dep, at_, Is] at hD
          go_simp
          exact hK _ _ (Grew.refl _) rfl
        refine ⟨fun a_ wx hR hD K hK => ?_, ?_⟩
        · have hG : Grew wr wx := (Grew.drew _).trans hR
          simp [Deps, Dep, at_, Is] at hD
          obtain ⟨hd0, hd1⟩ := hD
          go_simp
          exact hK _ _ (Grew.refl _) rfl
        refine ⟨fun a_ wx hR hD K hK => ?_, ?_⟩
        · have hG : Grew wr wx := (Grew.drew _).trans hR
          simp [Deps, Dep, at_, Is] at hD
          obtain ⟨e0, e1, e2⟩ := HBc.out wx hG
          go_simp
          exact hK _ _ (Grew.refl _) rfl
        trivial
      · show EndHold _ _ _ _ _ _ _
        refine end_all (xs := [_, _, _, _, _, _, _, _]) ⟨rfl, rfl, rfl, rfl, rfl, rfl, rfl, rfl, trivial⟩ ?_
        rintro w2 hR1 -
        refine ⟨?_⟩
        have hG_w2 : Grew wr w2 := (Grew.drew _).trans hR1
        clear hR1
        simp only [Act.put, List.setIfInBounds_toArray, List.set_cons_succ, List.set_cons_zero, dropN, putEach]
        have e_ := HEE.out
        go_wp2_with fail
        clear e_
        go_roundw
        case rel => exact ⟨i + 1, by go_num, by omega, Grew.trans HGR.out hG_w2⟩
        case measure => simp [intOf]; omega
    · have d1 : decide ((i : Int) < (n : Int)) = false := decide_eq_false (by omega)
      have d2 : decide (i < n) = false := decide_eq_false hlt
      go_wp2_with fail
      go_ret
      exact ⟨_, rfl, rfl, hgr⟩
end Go.Proofs.Ytimcafohmahapaa.F

-- DelE
namespace Go.Proofs.Ytimcafohmahapaa.F
open Go Go.RowKit Go.Proofs.YtimcafohmahapaaW.PrintWords Go.Proofs.YtimcafohmahapaaW.PrintLast Go.Proofs.YtimcafohmahapaaW.PrintMore Go.Proofs.YtimcafohmahapaaM Go.Proofs.YtimcafohmahapaaR
attribute [local go_sem] max2_int min2_int max_two min_two
set_option linter.unusedSimpArgs false
set_option linter.unusedVariables false
set_option maxRecDepth 100000
/-- pieces that can be written -/
def Fit (l : List Pc) : Prop := ∀ p ∈ l, PcOk p ∧ p.f2.size ≤ 5000
theorem Fit.take {l : List Pc} (h : Fit l) (i : Nat) : Fit (l.take i) := fun p hp => h p (List.mem_of_mem_take hp)
theorem rdP_at {l : List Pc} {i : Nat} (h : i < l.length) : l[i]? = some (rd_T43 l (i : Int)) := by
  unfold rd_T43
  rw [Int.toNat_natCast, List.getD_eq_getElem?_getD, List.getElem?_eq_getElem h]; rfl
/-- a row of bytes made behind a mark -/
def Own (base : Nat) (l : List Int) : World → Value → Prop := fun w v => w.ownsRow base 5 1 v l.length (nums .u8 l)
theorem Own.stable (base : Nat) (l : List Int) : ∀ w w' v, Grew w w' → Own base l w v → Own base l w' v := fun _ _ _ hg h => pw_own_below h hg
theorem own_less {w : World} {b base : Nat} {l : List Int} {v : Value} (h : Own b l w v) (hb : base ≤ b) : Own base l w v :=
  ⟨h.1, h.2.imp id fun ⟨g, cap, cur, h1, h2, h3⟩ => ⟨g, cap, cur, h1, Nat.le_trans hb h2, h3⟩⟩
end Go.Proofs.Ytimcafohmahapaa.F

-- DelF
namespace Go.Proofs.Ytimcafohmahapaa.F
open Go Go.RowKit Go.Proofs.YtimcafohmahapaaW.PrintWords Go.Proofs.YtimcafohmahapaaW.PrintLast Go.Proofs.YtimcafohmahapaaW.PrintMore Go.Proofs.YtimcafohmahapaaM Go.Proofs.YtimcafohmahapaaR
attribute [local go_sem] max2_int min2_int max_two min_two
set_option linter.unusedSimpArgs false
set_option linter.unusedVariables false
set_option maxRecDepth 100000
end Go.Proofs.Ytimcafohmahapaa.F

-- RowO
namespace Go.Proofs.Ytimcafohmahapaa.F
open Go Go.RowKit Go.Proofs.YtimcafohmahapaaW.PrintWords Go.Proofs.YtimcafohmahapaaW.PrintLast Go.Proofs.YtimcafohmahapaaW.PrintMore Go.Proofs.YtimcafohmahapaaR
set_option linter.unusedSimpArgs false
set_option linter.unusedVariables false
/-- v is a row of n elements with these cells, in a block of its own that lies from base on -/
def RowO (w : World) (base : Nat) (e : TypeId) (size : Nat) (v : Value) (n : Nat) (xs : List Value) : Prop :=
  xs.length = n * size ∧ ((v = .slice none 0 0 ∧ n = 0) ∨ ∃ g o cap cur, v = .slice (some ⟨g, o, none⟩) n cap ∧ base ≤ g ∧ w.heap[g]? = some (.cells cur e (0, 0)) ∧ n ≤ cap ∧ cap ≤ maxLen ∧ o + cap * size ≤ cur.size ∧ (cur.toList.drop o).take (n * size) = xs)
section
variable {w w' : World} {base : Nat} {e : TypeId} {size : Nat} {v : Value} {n : Nat} {xs : List Value}
theorem rowO_of_own (h : w.ownsRow base e size v n xs) : RowO w base e size v n xs := by
  refine ⟨h.1, h.2.imp id fun ⟨g, cap, cur, h1, h2, h3, h4, h5, h6, h7⟩ => ⟨g, 0, cap, cur, h1, h2, h3, h4, h5, by omega, by simpa using h7⟩⟩
theorem rowO_nil (w : World) (base : Nat) (e : TypeId) (size : Nat) : RowO w base e size (.slice none 0 0) 0 [] := ⟨by simp, .inl ⟨rfl, rfl⟩⟩
theorem RowO.slice (h : RowO w base e size v n xs) : ∃ A c, v = .slice A n c ∧ n ≤ c := by
  rcases h.2 with ⟨rfl, rfl⟩ | ⟨g, o, cap, cur, rfl, _, _, hn, _⟩
  · exact ⟨none, 0, rfl, Nat.le_refl _⟩
  · exact ⟨_, cap, rfl, hn⟩
theorem RowO.base_ (h : RowO w base e size v n xs) (k : Nat) (hk : v.ownBlock = some k) : base ≤ k := by
  rcases h.2 with ⟨rfl, _⟩ | ⟨g, o, cap, cur, rfl, hb, _⟩
  · simp [Value.ownBlock] at hk
  · have : g = k := by simpa [Value.ownBlock] using hk
    omega
theorem RowO.lt (h : RowO w base e size v n xs) (k : Nat) (hk : v.ownBlock = some k) : k < w.heap.size := by
  rcases h.2 with ⟨rfl, _⟩ | ⟨g, o, cap, cur, rfl, hb, hh, _⟩
  · simp [Value.ownBlock] at hk
  · have : g = k := by simpa [Value.ownBlock] using hk
    subst this
    exact blk_lt hh
theorem RowO.move (h : RowO w base e size v n xs) (hm : ∀ k, v.ownBlock = some k → w'.heap[k]? = w.heap[k]?) : RowO w' base e size v n xs := by
  refine ⟨h.1, h.2.imp id fun ⟨g, o, cap, cur, h1, h2, h3, h4⟩ => ⟨g, o, cap, cur, h1, h2, ?_, h4⟩⟩
  rw [hm g (by rw [h1]; rfl)]; exact h3
theorem RowO.upd {S : Nat → Prop} (h : RowO w base e size v n xs) (hu : Upd S w w') (hn : ∀ k, v.ownBlock = some k → ¬ S k) : RowO w' base e size v n xs :=
  h.move fun k hk => hu.block k (h.lt k hk) (hn k hk)
theorem RowO.grew (h : RowO w base e size v n xs) (hu : Grew w w') : RowO w' base e size v n xs := h.move fun k hk => hu.block k (h.lt k hk)
theorem RowO.ne {g : Nat} {t : TypeId} {cs : List Value} (h : RowO w base e size v n xs) (hg : Blk w g t cs) (hne : e ≠ t) : v.ownBlock ≠ some g := by
  intro he
  rcases h.2 with ⟨rfl, _⟩ | ⟨g', o, cap, cur, rfl, hb, hh, _⟩
  · simp [Value.ownBlock] at he
  · have : g' = g := by simpa [Value.ownBlock] using he
    subst this
    unfold Blk at hg
    rw [hg] at hh
    injection hh with hh
    injection hh with h1 h2 h3
    exact hne h2.symm
/-- its cells -/
theorem RowO.at_ (h : RowO w base e size v n xs) (hp : 0 < n) : ∃ g o cap, v = .slice (some ⟨g, o, none⟩) n cap ∧ n ≤ cap ∧ base ≤ g ∧ g < w.heap.size ∧ (∀ j, j < n * size → w.cell? ⟨g, o + j, none⟩ = xs[j]?) ∧ ∀ j, w.frozen? ⟨g, j, none⟩ = false := by
  rcases h.2 with ⟨rfl, h0⟩ | ⟨g, o, cap, cur, rfl, hb, hh, hnc, _, hs, hx⟩
  · omega
  · refine ⟨g, o, cap, rfl, hnc, hb, blk_lt hh, fun j hj => ?_, fun j => blk_frozen hh j⟩
    rw [blk_cell hh, ← hx, List.getElem?_take_of_lt hj, List.getElem?_drop, Array.getElem?_toList]
/-- a store into it -/
theorem RowO.set (h : RowO w base e size v n xs) {g o cap : Nat} (hv : v = .slice (some ⟨g, o, none⟩) n cap) (j : Nat) (hj : j < n * size) (u : Value) : RowO (w.setCell ⟨g, o + j, none⟩ u) base e size v n (xs.set j u) := by
  refine ⟨by rw [List.length_set]; exact h.1, ?_⟩
  rcases h.2 with ⟨h1, h0⟩ | ⟨g', o', cap', cur, h1, hb, hh, hnc, hm, hs, hx⟩
  · subst h0; simp at hj
  · rw [hv] at h1
    injection h1 with h1 h2 h3
    injection h1 with h1
    injection h1 with h1 h4
    subst h1 h3 h4
    refine .inr ⟨g, o, cap, cur.setIfInBounds (o + j) u, hv, hb, ?_, hnc, hm, by simpa using hs, ?_⟩
    · exact blk_set hh (o + j) u
    · rw [Array.toList_setIfInBounds, ← hx, List.drop_set, if_neg (by omega), Nat.add_sub_cancel_left, List.take_set]
end
/-- one element, of some cells in a block of its own, behind a row of one's own -/
theorem app_rowO {P : Program} (W : World) (base : Nat) (t e ty : TypeId) (z : Value) (size bytes : Nat) (ht : P.underlying t = some (.slice e)) (hinfo : (P.info? e).map (fun i => (i.zero, i.size, i.bytes)) = some (some z, size, bytes)) (hz : z.cells.size = size) (hs0 : 0 < size) (hb0 : 0 < bytes)
    (v : Value) (n : Nat) (xs : List Value) (g1 : Nat) (cs : List Value) (hcs : cs.length = size) (h1 : ∀ u ∈ cs, u.oneCell' = true) (HO : RowO W base e size v n xs) (HB : Blk W g1 e cs) (hbase : base ≤ W.heap.size) (hl : (n + 1) * bytes ≤ 140737488355328) :
    ∃ v1 w1, (Builtin.append_ #[t, t] ty #[v, .slice (some ⟨g1, 0, none⟩) 1 1]).run P W = .ok v1 w1 ∧ RowO w1 base e size v1 (n + 1) (xs ++ cs) ∧ W.grownBy w1 v.ownBlock ∧ (v1.ownBlock = v.ownBlock ∨ ∃ k, v1.ownBlock = some k ∧ W.heap.size ≤ k) := by
  obtain ⟨i0, hi, hzz⟩ := Option.map_eq_some_iff.1 hinfo
  simp only [Prod.mk.injEq] at hzz
  obtain ⟨hz0, hz1, hz2⟩ := hzz
  subst hz1
  subst hz2
  have hlen : n + 1 ≤ 140737488355328 := Nat.le_trans (Nat.le_mul_of_pos_right _ hb0) hl
  have hnews : ∀ j u, cs[j]? = some u → W.cell? ((⟨g1, 0, none⟩ : Addr).add j) = some u := fun j u hu => by rw [add_plain, HB.at_]; simpa using hu
  have hl2 : (xs ++ cs).length = (n + 1) * i0.size := by rw [List.length_append, HO.1, hcs, Nat.add_mul, Nat.one_mul]
  rcases HO.2 with ⟨rfl, rfl⟩ | ⟨g, o, cap, cur, rfl, hbg, hg, hnc, hcm, hcs2, htake⟩
  · obtain ⟨v1, w1, hr, h2, h3, h4⟩ := app_cells (P := P) W base t e ty z i0.size i0.bytes ht hinfo hz hs0 hb0 (.slice none 0 0) 0 xs g1 cs hcs h1 ⟨HO.1, .inl ⟨rfl, rfl⟩⟩ HB hbase hl
    exact ⟨v1, w1, hr, rowO_of_own h2, h3, h4⟩
  · by_cases hroom : n + 1 ≤ cap
    · have hmul := Nat.mul_le_mul_right i0.size hroom
      have hfit : o + n * i0.size + 0 + cs.length ≤ cur.size := by rw [hcs]; rw [Nat.add_mul, Nat.one_mul] at hmul; omega
      have hf := run_firstCells_some (P := P) W i0.size 1 ⟨g1, 0, none⟩ 1 1 cs (by rw [hcs]; simp) hnews
      have hst := run_storeCells_at P g (o + n * i0.size) e cs 0 cur W hg hfit h1
      simp only [Nat.add_zero] at hst
      refine ⟨.slice (some ⟨g, o, none⟩) (n + 1) cap, W.setRow g (cur.toList.take (o + n * i0.size) ++ cs ++ cur.toList.drop (o + n * i0.size + cs.length)).toArray, ?_, ⟨hl2, .inr ⟨g, o, cap, _, rfl, hbg, setRow_heap W g cur _ e _ hg, hroom, hcm, ?_, ?_⟩⟩, ⟨rfl, rfl, rfl, by simp, fun k _ hk => setRow_other W g k _ (fun e => hk (by simp [Value.ownBlock, e]))⟩, .inl rfl⟩
      · have e9 : (⟨g, o, none⟩ : Addr).add (n * i0.size) = ⟨g, o + n * i0.size, none⟩ := by simp [Addr.add]
        simp [Builtin.append_, run_underlying ht, sizeOf, typeInfo, hi, Builtin.lenOf, hroom, hf, e9, hst]
      · simp only [List.size_toArray, List.length_append, List.length_take, List.length_drop, Array.length_toList]
        omega
      · have hh : (List.take (o + n * i0.size) cur.toList).length = o + n * i0.size := by rw [List.length_take, Array.length_toList]; omega
        rw [List.append_assoc, List.drop_append_of_le_length (by rw [hh]; omega), ← List.append_assoc, List.drop_take, Nat.add_sub_cancel_left, htake, ← hl2]
        exact List.take_left
    · have holds : ∀ j u, xs[j]? = some u → W.cell? ((⟨g, o, none⟩ : Addr).add j) = some u := fun j u hu => by
        have hj : j < n * i0.size := by
          rcases Nat.lt_or_ge j xs.length with h | h
          · rw [HO.1] at h; exact h
          · rw [List.getElem?_eq_none h] at hu; cases hu
        rw [show (⟨g, o, none⟩ : Addr).add j = ⟨g, o + j, none⟩ from by simp [Addr.add], blk_cell hg, ← hu, ← htake, List.getElem?_take_of_lt hj, List.getElem?_drop, Array.getElem?_toList]
      have hr := run_append_grow (P := P) W t ty e i0 z ht hi hz0 ⟨g, o, none⟩ n cap xs HO.1 holds ⟨g1, 0, none⟩ 1 1 cs (by rw [hcs]; simp) hnews (by omega) (by omega) (growslice_fits (by omega) hl)
      have hge := grownCap_ge W (n + 1) cap e
      have hcm2 : grownCap W (n + 1) cap e ≤ maxLen := grownCap_le_maxLen W (n + 1) cap e (by unfold maxLen; omega)
      refine ⟨_, _, hr, ⟨hl2, .inr ⟨W.heap.size, 0, _, _, rfl, hbase, heap_alloc_new W.drew _, hge, hcm2, ?_, ?_⟩⟩, ⟨rfl, rfl, rfl, by simp, fun k hk _ => Below.heap_alloc W.drew _ k hk⟩, .inr ⟨_, rfl, Nat.le_refl _⟩⟩
      · simp only [Array.size_append, List.size_toArray, size_zeroCells, hz, HO.1, hcs]
        have : (n + 1) * i0.size = n * i0.size + i0.size := by rw [Nat.add_mul, Nat.one_mul]
        have h9 : grownCap W (n + 1) cap e * i0.size = (n + 1) * i0.size + (grownCap W (n + 1) cap e - (n + 1)) * i0.size := by rw [← Nat.add_mul]; congr 1; omega
        omega
      · simp only [Array.toList_append, List.append_assoc, List.drop_zero]
        rw [← List.append_assoc, ← hl2]
        exact List.take_left
end Go.Proofs.Ytimcafohmahapaa.F

-- F36
namespace Go.Proofs.Ytimcafohmahapaa.F
open Go.RowKit Go.Proofs.YtimcafohmahapaaW.PrintWords Go.Proofs.YtimcafohmahapaaW.PrintLast Go.Proofs.YtimcafohmahapaaW.PrintMore
attribute [local go_sem] max2_int min2_int max_two min_two max_three min_three max_four min_four   -- for this text's walks alone
set_option linter.unusedVariables false
set_option linter.unusedSimpArgs false

end Go.Proofs.Ytimcafohmahapaa.F

-- SgnB
namespace Go.Proofs.Ytimcafohmahapaa.F
open Go Go.RowKit Go.Proofs.YtimcafohmahapaaW.PrintWords Go.Proofs.YtimcafohmahapaaW.PrintLast Go.Proofs.YtimcafohmahapaaW.PrintMore Go.Proofs.YtimcafohmahapaaM Go.Proofs.YtimcafohmahapaaR
attribute [local go_sem] max2_int min2_int max_two min_two
set_option linter.unusedSimpArgs false
set_option linter.unusedVariables false
set_option maxRecDepth 100000
/-- block number m -/
def blkT (t : ByteArray) (s m : Nat) : ByteArray := t.extract (min (m * s) t.size) (min (m * s + s) t.size)
def cntT (t : ByteArray) (s : Nat) : Nat := (t.size + s - 1) / s
def blksT (t : ByteArray) (s m : Nat) : List ByteArray := (List.range m).map (blkT t s)
theorem blksT_succ (t : ByteArray) (s m : Nat) : blksT t s (m + 1) = blksT t s m ++ [blkT t s m] := by
  unfold blksT; rw [List.range_succ, List.map_append]; rfl
theorem blksT_len (t : ByteArray) (s m : Nat) : (blksT t s m).length = m := by simp [blksT]
theorem cnt_lt (t : ByteArray) (s m : Nat) (hs : 0 < s) : m < cntT t s ↔ m * s < t.size := by
  unfold cntT
  rw [Nat.lt_iff_add_one_le, Nat.le_div_iff_mul_le hs, Nat.add_mul]
  omega
theorem sign_l0 (t : ByteArray) (s : Nat) (hs : 0 < s) (hs2 : s ≤ 128) (ht : t.size ≤ 1024) : ∀ (d m k : Nat), cntT t s - m = d → m ≤ cntT t s → d < k →
    sign_Blocks.l0 k (t.extract (min (m * s) t.size) t.size) (s : Int) (blksT t s m) = some (blksT t s (cntT t s), 0) := by
  intro d
  induction d with
  | zero =>
    intro m k hd hm hk
    obtain ⟨k, rfl⟩ : ∃ q, k = q + 1 := ⟨k - 1, by omega⟩
    have hme : m = cntT t s := by omega
    have hge : ¬ m * s < t.size := fun h => by have := (cnt_lt t s m hs).2 h; omega
    rw [sign_Blocks.l0, if_neg (by rw [ByteArray.size_extract]; omega), hme]
  | succ d ih =>
    intro m k hd hm hk
    obtain ⟨k, rfl⟩ : ∃ q, k = q + 1 := ⟨k - 1, by omega⟩
    have hlt : m * s < t.size := (cnt_lt t s m hs).1 (by omega)
    have hcl : cntT t s ≤ 2000 := by unfold cntT; exact Nat.le_trans (Nat.div_le_self _ _) (by omega)
    obtain ⟨p, hp⟩ : ∃ p, p = m * s := ⟨_, rfl⟩
    rw [← hp] at hlt
    have hsz : (t.extract (min p t.size) t.size).size = t.size - p := by rw [ByteArray.size_extract]; omega
    obtain ⟨q, hq⟩ : ∃ q, q = min s (t.size - p) := ⟨_, rfl⟩
    have hmn : mn (s : Int) ((t.size - p : Nat) : Int) = (q : Int) := by unfold mn; split <;> omega
    have e1 : (t.extract (min p t.size) t.size).extract 0 q = blkT t s m := by
      unfold blkT
      rw [← hp, ByteArray.extract_extract]
      congr 1 <;> omega
    have e2 : (t.extract (min p t.size) t.size).extract q (t.size - p) = t.extract (min ((m + 1) * s) t.size) t.size := by
      rw [ByteArray.extract_extract, Nat.add_mul, ← hp]
      congr 1 <;> omega
    rw [← hp, sign_Blocks.l0, hsz, if_pos (by omega), hmn, if_pos (by omega), if_pos (by omega), if_pos (by rw [blksT_len]; omega), Int.toNat_natCast, e1, e2, ← blksT_succ]
    exact ih (m + 1) k (by omega) (by omega) (by omega)
end Go.Proofs.Ytimcafohmahapaa.F

-- SgnT
namespace Go.Proofs.Ytimcafohmahapaa.F
open Go Go.RowKit Go.Proofs.YtimcafohmahapaaW.PrintWords Go.Proofs.YtimcafohmahapaaW.PrintLast Go.Proofs.YtimcafohmahapaaW.PrintMore
attribute [local go_sem] max2_int min2_int max_two min_two
set_option linter.unusedVariables false
set_option linter.unusedSimpArgs false
structure S64 where
  f0 : Int
  f1 : ByteArray
def z64 : S64 := ⟨(0 : Int), (⟨#[]⟩ : ByteArray)⟩
def k64 : Kd S64 := Kd.iso (Kd.pair (Kd.int .u32) Kd.string) (fun x : S64 => (x.f0, x.f1))
theorem k64_open {w : World} {x : S64} {cs : List Value} (h : k64.K w x cs) : cs = [.int .u32 x.f0, .string x.f1] := by
  obtain ⟨_, _, rfl, rfl, rfl⟩ := h
  exact rfl
theorem k64_mk (w : World) (x : S64) : k64.K w x [.int .u32 x.f0, .string x.f1] := ⟨[.int .u32 x.f0], [.string x.f1], rfl, rfl, rfl⟩
def rd_T64 (xs : List S64) (i : Int) : S64 := xs.getD i.toNat z64
theorem at_T64 {w : World} {A : Option Addr} {n : Nat} {xs : List S64} (h : Kd.C k64 w A n xs) (i : Int) (h0 : 0 ≤ i) (h1 : i < n) : ∃ ad , A = some ad ∧ w.cell? (ad.add (i.toNat * 2)) = some (.int .u32 (rd_T64 xs i).f0) ∧ w.cell? ⟨(ad.add (i.toNat * 2)).block, (ad.add (i.toNat * 2)).off + 1, none⟩ = some (.string (rd_T64 xs i).f1) := by
  obtain ⟨ad, c, e, _, hK, hc0⟩ := Kd.C_get h z64 i h0 h1
  have hc : ∀ j u, c[j]? = some u → w.cell? (ad.add (i.toNat * 2 + j)) = some u := hc0
  obtain rfl := k64_open hK
  exact ⟨ad, e, hc 0 _ rfl, by rw [← add_field _ _ 1 (by omega)]; exact hc 1 _ rfl⟩
end Go.Proofs.Ytimcafohmahapaa.F
