/- Texts of this seat laid together: ShaY, ShaL, ShaR, MacM, MacT, MacR, MacS, NumG, F47, NumK, F31, F15. -/
import Derived.Test.YtmifoihfpjomaaaSB
import Derived.Lib.LazyBuf
import Derived.Test.YtmifoihfpjomaaaSA

-- ShaY
namespace Go.Proofs.Ytmifoihfpjomaaa.F
open Go Go.RowKit Go.Proofs.YtmifoihfpjomaaaW.PrintWords Go.Proofs.YtmifoihfpjomaaaW.PrintLast Go.Proofs.YtmifoihfpjomaaaW.PrintMore Go.Proofs.YtmifoihfpjomaaaR
attribute [local go_sem] max2_int min2_int max_two min_two
set_option linter.unusedSimpArgs false
set_option linter.unusedVariables false
set_option maxRecDepth 100000
/-- the world of the reference's mixing: the words, the state, the result and the schedule lie in four blocks of its own -/
structure MixR (w : World) (ks s x : List Nat) (wr : World) : Prop where
  bk : Blk wr w.heap.size 80 (wcells ks)
  b0 : Blk wr (w.heap.size + 1) 82 (wcells s)
  b1 : Blk wr (w.heap.size + 1 + 1) 82 (wcells (List.replicate 8 0))
  b2 : Blk wr (w.heap.size + 1 + 1 + 1) 80 (wcells x)
  gr : Grew w wr
theorem MixR.grew {w : World} {ks s x : List Nat} {wr w' : World} (h : MixR w ks s x wr) (hg : Grew wr w') : MixR w ks s x w' := ⟨h.bk.grew hg, h.b0.grew hg, h.b1.grew hg, h.b2.grew hg, h.gr.trans hg⟩
theorem MixR.set2 {w : World} {ks s x : List Nat} {wr : World} (h : MixR w ks s x wr) (i v : Nat) : MixR w ks s (x.set i v) (wr.setCell ⟨w.heap.size + 1 + 1 + 1, i, none⟩ (.int .u32 (v : Int))) :=
  ⟨h.bk.far (by simp <;> omega) _, h.b0.far (by simp <;> omega) _, h.b1.far (by simp) _, by rw [← wcells_set]; exact h.b2.set i _, Grew.setCell_new h.gr (by simp <;> omega) _⟩
theorem MixR.set0 {w : World} {ks s x : List Nat} {wr : World} (h : MixR w ks s x wr) (i v : Nat) : MixR w ks (s.set i v) x (wr.setCell ⟨w.heap.size + 1, i, none⟩ (.int .u32 (v : Int))) :=
  ⟨h.bk.far (by simp) _, by rw [← wcells_set]; exact h.b0.set i _, h.b1.far (by simp) _, h.b2.far (by simp <;> omega) _, Grew.setCell_new h.gr (by simp) _⟩
/-- .. and the rounds' words in a fifth one -/
structure MixZ (w : World) (ks s x z : List Nat) (gz : Nat) (wr : World) : Prop where
  m : MixR w ks s x wr
  bz : Blk wr gz 82 (wcells z)
  hg : w.heap.size + 1 + 1 + 1 < gz
theorem MixR.row {w : World} {ks s x : List Nat} {wr : World} (h : MixR w ks s x wr) {gz : Nat} (hg : w.heap.size + 1 + 1 + 1 < gz) (c : Array Value) : MixR w ks s x (wr.setRow gz c) :=
  ⟨h.bk.farRow (by omega) _, h.b0.farRow (by omega) _, h.b1.farRow (by omega) _, h.b2.farRow (by omega) _, Grew.setRow h.gr (by omega) _⟩
theorem MixZ.grew {w : World} {ks s x z : List Nat} {gz : Nat} {wr w' : World} (h : MixZ w ks s x z gz wr) (hg : Grew wr w') : MixZ w ks s x z gz w' := ⟨h.m.grew hg, h.bz.grew hg, h.hg⟩
theorem MixZ.setz {w : World} {ks s x z : List Nat} {gz : Nat} {wr : World} (h : MixZ w ks s x z gz wr) (z' : List Nat) : MixZ w ks s x z' gz (wr.setRow gz (wcells z').toArray) :=
  ⟨h.m.row h.hg _, h.bz.setRow _, h.hg⟩
theorem MixZ.set0 {w : World} {ks s x z : List Nat} {gz : Nat} {wr : World} (h : MixZ w ks s x z gz wr) (i v : Nat) : MixZ w ks (s.set i v) x z gz (wr.setCell ⟨w.heap.size + 1, i, none⟩ (.int .u32 (v : Int))) :=
  ⟨h.m.set0 i v, h.bz.far (by have := h.hg; simp; omega) _, h.hg⟩
theorem notr {e : Nat} (h : e < 4294967296) : IntKind.u32.wrap (4294967295 - (e : Int)) = ((notW e : Nat) : Int) := by rw [IntWalk.u32_in _ (by omega)]; unfold notW; omega
theorem rturn_n (a : Nat) (m : Int) (n : Nat) (hm : m = (n : Int)) (ha : a < 4294967296) (h1 : 1 ≤ n) (h2 : n ≤ 31) (w : World) : Calls Try.prog 76 #[.int .u32 (a : Int), .int .u64 m] w (Tells w (Is (.int .u32 ((rotW a n : Nat) : Int)))) := by
  subst hm; exact rturn_c a n ha h1 h2 w
theorem str_at (l : List Int) (hl : ∀ x ∈ l, 0 ≤ x ∧ x < 256) (i : Nat) (h : i < (strOfNums l).size) : ((strOfNums l)[i]).toNat = byteN l i := by
  have h1 : i < l.length := by rw [← str_size l]; exact h
  have h2 := hl _ (List.getElem_mem h1)
  unfold byteN
  rw [List.getD_eq_getElem?_getD, List.getElem?_eq_getElem h1]
  show ((strOfNums l).data[i]).toNat = _
  simp only [strOfNums, Option.getD_some]
  rw [List.getElem_toArray, List.getElem_map]
  rw [UInt8.toNat_ofNat']
  omega
set_option maxHeartbeats 4000000 in
theorem rmix_c (w : World) (ks s : List Nat) (l : List Int) (hkl : ks.length = 64) (hkw : words ks) (hsl : s.length = 8) (hsw : words s) (hl : l.length = 64) (hlb : ∀ x ∈ l, 0 ≤ x ∧ x < 256) :
    Calls Try.prog 69 #[.agg (wcells ks).toArray, .agg (wcells s).toArray, .string (strOfNums l)] w (Tells w (Is (.agg (wcells (mixL ks s l)).toArray))) := by
  obtain ⟨B, hBs, hB⟩ : ∃ B : ByteArray, strOfNums l = B ∧ ∀ i (h : i < B.size), (B[i]).toNat = byteN l i := ⟨_, rfl, str_at l hlb⟩
  have hBl : B.size = 64 := by rw [← hBs, str_size, hl]
  rw [hBs]
  clear hBs
  have hix : ∀ i : Nat, i < 64 → ∀ w', Sem.run Try.prog (Instr.index 9 (.string B) (.int .i64 (i : Int))) w' = .ok (.int .u8 ((byteN l i : Nat) : Int)) w' := by
    intro i hi w'
    rw [run_index_string w' _ B .i64 _ (by rfl), dif_pos (by omega)]
    congr 2
    rw [← hB i (by omega)]; rfl
  clear hB hBl
  go_enter Try.func69, Try.ntmps69
  go_wp2_with fail
  rw [zeros8, zeros64]
  have hm0 : MixR w ks s (arr64 []) ((((w.alloc (.cells (wcells ks).toArray 80)).alloc (.cells (wcells s).toArray 82)).alloc (.cells (wcells (List.replicate 8 0)).toArray 82)).alloc (.cells (wcells (arr64 [])).toArray 80)) :=
    ⟨(((Blk.new w _ _).grew (Grew.alloc _ _)).grew (Grew.alloc _ _)).grew (Grew.alloc _ _), by simpa using ((Blk.new (w.alloc (.cells (wcells ks).toArray 80)) 82 (wcells s)).grew (Grew.alloc _ _)).grew (Grew.alloc _ _), by simpa using (Blk.new ((w.alloc (.cells (wcells ks).toArray 80)).alloc (.cells (wcells s).toArray 82)) 82 (wcells (List.replicate 8 0))).grew (Grew.alloc _ _), by simpa using Blk.new (((w.alloc (.cells (wcells ks).toArray 80)).alloc (.cells (wcells s).toArray 82)).alloc (.cells (wcells (List.replicate 8 0)).toArray 82)) 80 (wcells (arr64 [])), (((Grew.alloc _ _).trans (Grew.alloc _ _)).trans (Grew.alloc _ _)).trans (Grew.alloc _ _)⟩
  obtain ⟨W, hW⟩ : ∃ W, W = ((((w.alloc (.cells (wcells ks).toArray 80)).alloc (.cells (wcells s).toArray 82)).alloc (.cells (wcells (List.replicate 8 0)).toArray 82)).alloc (.cells (wcells (arr64 [])).toArray 80)) := ⟨_, rfl⟩
  rw [← hW] at hm0 ⊢
  clear hW
  go_loopw [8] (fun iv wr => ∃ t : Nat, iv = .int .i64 (t : Int) ∧ t ≤ 16 ∧ MixR w ks s (arr64 (ws l t)) wr) (fun iv _ => 16 - (intOf iv).toNat)
  case atStart => exact ⟨0, rfl, by omega, hm0⟩
  case round =>
    obtain ⟨t, rfl, ht, hm⟩ := hrel
    clear hm0
    by_cases hlt : t < 16
    · have d1 : decide ((t : Int) < 16) = true := decide_eq_true (by omega)
      obtain ⟨n0, hn0⟩ : ∃ n, n = 4 * t := ⟨_, rfl⟩
      obtain ⟨n1, hn1⟩ : ∃ n, n = 4 * t + 1 := ⟨_, rfl⟩
      obtain ⟨n2, hn2⟩ : ∃ n, n = 4 * t + 2 := ⟨_, rfl⟩
      obtain ⟨n3, hn3⟩ : ∃ n, n = 4 * t + 3 := ⟨_, rfl⟩
      have e0 : IntKind.i64.wrap (4 * (t : Int)) = (n0 : Int) := by rw [IntWalk.i64_in _ (by omega)]; omega
      have e1 : IntKind.i64.wrap ((n0 : Int) + 1) = (n1 : Int) := by rw [IntWalk.i64_in _ (by omega)]; omega
      have e2 : IntKind.i64.wrap ((n0 : Int) + 2) = (n2 : Int) := by rw [IntWalk.i64_in _ (by omega)]; omega
      have e3 : IntKind.i64.wrap ((n0 : Int) + 3) = (n3 : Int) := by rw [IntWalk.i64_in _ (by omega)]; omega
      have I0 := hix n0 (by omega)
      have I1 := hix n1 (by omega)
      have I2 := hix n2 (by omega)
      have I3 := hix n3 (by omega)
      have k0 := byteN_lt hlb n0
      have k1 := byteN_lt hlb n1
      have k2 := byteN_lt hlb n2
      have k3 := byteN_lt hlb n3
      have hbe : be32 l t = byteN l n0 * 16777216 + byteN l n1 * 65536 + byteN l n2 * 256 + byteN l n3 := by rw [hn0, hn1, hn2, hn3]; rfl
      obtain ⟨v0, hv0⟩ : ∃ v, v = byteN l n0 := ⟨_, rfl⟩
      obtain ⟨v1, hv1⟩ : ∃ v, v = byteN l n1 := ⟨_, rfl⟩
      obtain ⟨v2, hv2⟩ : ∃ v, v = byteN l n2 := ⟨_, rfl⟩
      obtain ⟨v3, hv3⟩ : ∃ v, v = byteN l n3 := ⟨_, rfl⟩
      rw [← hv0] at I0 k0 hbe
      rw [← hv1] at I1 k1 hbe
      rw [← hv2] at I2 k2 hbe
      rw [← hv3] at I3 k3 hbe
      obtain ⟨p0, hp0⟩ : ∃ p, p = v0 * 16777216 := ⟨_, rfl⟩
      obtain ⟨p1, hp1⟩ : ∃ p, p = v1 * 65536 := ⟨_, rfl⟩
      obtain ⟨p2, hp2⟩ : ∃ p, p = v2 * 256 := ⟨_, rfl⟩
      have g0 : IntKind.u32.wrap ((v0 : Int) * 16777216) = (p0 : Int) := by rw [IntWalk.u32_in _ (by omega)]; omega
      have g1 : IntKind.u32.wrap ((v1 : Int) * 65536) = (p1 : Int) := by rw [IntWalk.u32_in _ (by omega)]; omega
      have g2 : IntKind.u32.wrap ((v2 : Int) * 256) = (p2 : Int) := by rw [IntWalk.u32_in _ (by omega)]; omega
      obtain ⟨q1, hq1⟩ : ∃ q, q = p0 + p1 := ⟨_, rfl⟩
      obtain ⟨q2, hq2⟩ : ∃ q, q = q1 + p2 := ⟨_, rfl⟩
      obtain ⟨q3, hq3⟩ : ∃ q, q = q2 + v3 := ⟨_, rfl⟩
      have s1 : IntKind.u32.wrap ((p0 : Int) + (p1 : Int)) = (q1 : Int) := by rw [IntWalk.u32_in _ (by omega)]; omega
      have s2 : IntKind.u32.wrap ((q1 : Int) + (p2 : Int)) = (q2 : Int) := by rw [IntWalk.u32_in _ (by omega)]; omega
      have s3 : IntKind.u32.wrap ((q2 : Int) + (v3 : Int)) = (q3 : Int) := by rw [IntWalk.u32_in _ (by omega)]; omega
      have HBE := Lib.hid (show be32 l t = q3 from by omega)
      have HQ := Lib.hid (show (v0 : Int) * 16777216 + (v1 : Int) * 65536 + (v2 : Int) * 256 + (v3 : Int) = (q3 : Int) from by omega)
      have HM := Lib.hid hm
      clear hm hbe hp0 hp1 hp2 hq1 hq2 hq3 hv0 hv1 hv2 hv3 hn0 hn1 hn2 hn3
      go_wp2_with fail
      apply region_grew [Is _, Is _, Is _, Is _, Is _, Is _, Is _, Is _, Is _, Is _, Is _, Is _, Is _, Is _, Is _, Is _, Is _, Is _, Is _, Is _, Is _, Is _, Is _, Is _, Is _, Is _, Is _, Is _, Is _, Is _] [([(8, none)], none), ([(2, none)], none), ([(8, none)], none), ([(23, some 2)], none), ([(22, some 1), (24, some 3)], none), ([(25, some 4)], none), ([(26, some 5)], none), ([(2, none)], none), ([(8, none)], none), ([(29, some 8)], none), ([(30, some 9)], none), ([(28, some 7), (31, some 10)], none), ([(32, some 11)], none), ([(33, some 12)], none), ([(27, some 6), (34, some 13)], none), ([(2, none)], none), ([(8, none)], none), ([(37, some 16)], none), ([(38, some 17)], none), ([(36, some 15), (39, some 18)], none), ([(40, some 19)], none), ([(41, some 20)], none), ([(35, some 14), (42, some 21)], none), ([(2, none)], none), ([(8, none)], none), ([(45, some 24)], none), ([(46, some 25)], none), ([(44, some 23), (47, some 26)], none), ([(48, some 27)], none), ([(43, some 22), (49, some 28)], none)] [(21, 0), (22, 1), (23, 2), (24, 3), (25, 4), (26, 5), (27, 6), (28, 7), (29, 8), (30, 9), (31, 10), (32, 11), (33, 12), (34, 13), (35, 14), (36, 15), (37, 16), (38, 17), (39, 18), (40, 19), (41, 20), (42, 21), (43, 22), (44, 23), (45, 24), (46, 25), (47, 26), (48, 27), (49, 28), (50, 29)] rfl (by kernel_rfl) (by kernel_rfl) (show Stable Grew _ from ⟨Is.stable _, Is.stable _, Is.stable _, Is.stable _, Is.stable _, Is.stable _, Is.stable _, Is.stable _, Is.stable _, Is.stable _, Is.stable _, Is.stable _, Is.stable _, Is.stable _, Is.stable _, Is.stable _, Is.stable _, Is.stable _, Is.stable _, Is.stable _, Is.stable _, Is.stable _, Is.stable _, Is.stable _, Is.stable _, Is.stable _, Is.stable _, Is.stable _, Is.stable _, Is.stable _, trivial⟩)
      · show OpsHold _ _ _ _ _ _ _ _ _
        refine ⟨fun a_ wx hR hD K hK => ?_, ?_⟩
        · have hG : Grew wr wx := (Grew.drew _).trans hR
          simp [Deps, Dep, at_, Is] at hD
          go_simp
          exact hK _ _ (Grew.refl _) rfl
        refine ⟨fun a_ wx hR hD K hK => ?_, ?_⟩
        · have hG : Grew wr wx := (Grew.drew _).trans hR
          simp [Deps, Dep, at_, Is] at hD
          go_simp
          exact hK _ _ (Grew.refl _) rfl
        refine ⟨fun a_ wx hR hD K hK => ?_, ?_⟩
        · have hG : Grew wr wx := (Grew.drew _).trans hR
          simp [Deps, Dep, at_, Is] at hD
          go_simp
          exact hK _ _ (Grew.refl _) rfl
        refine ⟨fun a_ wx hR hD K hK => ?_, ?_⟩
        · have hG : Grew wr wx := (Grew.drew _).trans hR
          simp [Deps, Dep, at_, Is] at hD
          go_simp
          exact hK _ _ (Grew.refl _) rfl
        refine ⟨fun a_ wx hR hD K hK => ?_, ?_⟩
        · have hG : Grew wr wx := (Grew.drew _).trans hR
          simp [Deps, Dep, at_, Is] at hD
          obtain ⟨hd0, hd1⟩ := hD
          go_simp
          exact hK _ _ (Grew.refl _) rfl
        refine ⟨fun a_ wx hR hD K hK => ?_, ?_⟩
        · have hG : Grew wr wx := (Grew.drew _).trans hR
          simp [Deps, Dep, at_, Is] at hD
          go_simp
          exact hK _ _ (Grew.refl _) rfl
        refine ⟨fun a_ wx hR hD K hK => ?_, ?_⟩
        · have hG : Grew wr wx := (Grew.drew _).trans hR
          simp [Deps, Dep, at_, Is] at hD
          go_simp
          exact hK _ _ (Grew.refl _) rfl
        refine ⟨fun a_ wx hR hD K hK => ?_, ?_⟩
        · have hG : Grew wr wx := (Grew.drew _).trans hR
          simp [Deps, Dep, at_, Is] at hD
          go_simp
          exact hK _ _ (Grew.refl _) rfl
        refine ⟨fun a_ wx hR hD K hK => ?_, ?_⟩
        · have hG : Grew wr wx := (Grew.drew _).trans hR
          simp [Deps, Dep, at_, Is] at hD
          go_simp
          exact hK _ _ (Grew.refl _) rfl
        refine ⟨fun a_ wx hR hD K hK => ?_, ?_⟩
        · have hG : Grew wr wx := (Grew.drew _).trans hR
          simp [Deps, Dep, at_, Is] at hD
          go_simp
          exact hK _ _ (Grew.refl _) rfl
        refine ⟨fun a_ wx hR hD K hK => ?_, ?_⟩
        · have hG : Grew wr wx := (Grew.drew _).trans hR
          simp [Deps, Dep, at_, Is] at hD
          go_simp
          exact hK _ _ (Grew.refl _) rfl
        refine ⟨fun a_ wx hR hD K hK => ?_, ?_⟩
        · have hG : Grew wr wx := (Grew.drew _).trans hR
          simp [Deps, Dep, at_, Is] at hD
          obtain ⟨hd0, hd1⟩ := hD
          go_simp
          exact hK _ _ (Grew.refl _) rfl
        refine ⟨fun a_ wx hR hD K hK => ?_, ?_⟩
        · have hG : Grew wr wx := (Grew.drew _).trans hR
          simp [Deps, Dep, at_, Is] at hD
          go_simp
          exact hK _ _ (Grew.refl _) rfl
        refine ⟨fun a_ wx hR hD K hK => ?_, ?_⟩
        · have hG : Grew wr wx := (Grew.drew _).trans hR
          simp [Deps, Dep, at_, Is] at hD
          go_simp
          exact hK _ _ (Grew.refl _) rfl
        refine ⟨fun a_ wx hR hD K hK => ?_, ?_⟩
        · have hG : Grew wr wx := (Grew.drew _).trans hR
          simp [Deps, Dep, at_, Is] at hD
          obtain ⟨hd0, hd1⟩ := hD
          go_simp
          exact hK _ _ (Grew.refl _) rfl
        refine ⟨fun a_ wx hR hD K hK => ?_, ?_⟩
        · have hG : Grew wr wx := (Grew.drew _).trans hR
          simp [Deps, Dep, at_, Is] at hD
          go_simp
          exact hK _ _ (Grew.refl _) rfl
        refine ⟨fun a_ wx hR hD K hK => ?_, ?_⟩
        · have hG : Grew wr wx := (Grew.drew _).trans hR
          simp [Deps, Dep, at_, Is] at hD
          go_simp
          exact hK _ _ (Grew.refl _) rfl
        refine ⟨fun a_ wx hR hD K hK => ?_, ?_⟩
        · have hG : Grew wr wx := (Grew.drew _).trans hR
          simp [Deps, Dep, at_, Is] at hD
          go_simp
          exact hK _ _ (Grew.refl _) rfl
        refine ⟨fun a_ wx hR hD K hK => ?_, ?_⟩
        · have hG : Grew wr wx := (Grew.drew _).trans hR
          simp [Deps, Dep, at_, Is] at hD
          go_simp
          exact hK _ _ (Grew.refl _) rfl
        refine ⟨fun a_ wx hR hD K hK => ?_, ?_⟩
        · have hG : Grew wr wx := (Grew.drew _).trans hR
          simp [Deps, Dep, at_, Is] at hD
          obtain ⟨hd0, hd1⟩ := hD
          go_simp
          exact hK _ _ (Grew.refl _) rfl
        refine ⟨fun a_ wx hR hD K hK => ?_, ?_⟩
        · have hG : Grew wr wx := (Grew.drew _).trans hR
          simp [Deps, Dep, at_, Is] at hD
          go_simp
          exact hK _ _ (Grew.refl _) rfl
        refine ⟨fun a_ wx hR hD K hK => ?_, ?_⟩
        · have hG : Grew wr wx := (Grew.drew _).trans hR
          simp [Deps, Dep, at_, Is] at hD
          go_simp
          exact hK _ _ (Grew.refl _) rfl
        refine ⟨fun a_ wx hR hD K hK => ?_, ?_⟩
        · have hG : Grew wr wx := (Grew.drew _).trans hR
          simp [Deps, Dep, at_, Is] at hD
          obtain ⟨hd0, hd1⟩ := hD
          go_simp
          exact hK _ _ (Grew.refl _) rfl
        refine ⟨fun a_ wx hR hD K hK => ?_, ?_⟩
        · have hG : Grew wr wx := (Grew.drew _).trans hR
          simp [Deps, Dep, at_, Is] at hD
          go_simp
          exact hK _ _ (Grew.refl _) rfl
        refine ⟨fun a_ wx hR hD K hK => ?_, ?_⟩
        · have hG : Grew wr wx := (Grew.drew _).trans hR
          simp [Deps, Dep, at_, Is] at hD
          go_simp
          exact hK _ _ (Grew.refl _) rfl
        refine ⟨fun a_ wx hR hD K hK => ?_, ?_⟩
        · have hG : Grew wr wx := (Grew.drew _).trans hR
          simp [Deps, Dep, at_, Is] at hD
          go_simp
          exact hK _ _ (Grew.refl _) rfl
        refine ⟨fun a_ wx hR hD K hK => ?_, ?_⟩
        · have hG : Grew wr wx := (Grew.drew _).trans hR
          simp [Deps, Dep, at_, Is] at hD
          go_simp
          exact hK _ _ (Grew.refl _) rfl
        refine ⟨fun a_ wx hR hD K hK => ?_, ?_⟩
        · have hG : Grew wr wx := (Grew.drew _).trans hR
          simp [Deps, Dep, at_, Is] at hD
          obtain ⟨hd0, hd1⟩ := hD
          go_simp
          exact hK _ _ (Grew.refl _) rfl
        refine ⟨fun a_ wx hR hD K hK => ?_, ?_⟩
        · have hG : Grew wr wx := (Grew.drew _).trans hR
          simp [Deps, Dep, at_, Is] at hD
          go_simp
          exact hK _ _ (Grew.refl _) rfl
        refine ⟨fun a_ wx hR hD K hK => ?_, ?_⟩
        · have hG : Grew wr wx := (Grew.drew _).trans hR
          simp [Deps, Dep, at_, Is] at hD
          obtain ⟨hd0, hd1⟩ := hD
          go_simp
          exact hK _ _ (Grew.refl _) rfl
        trivial
      · show EndHold _ _ _ _ _ _ _
        refine end_all (xs := [_, _, _, _, _, _, _, _, _, _, _, _, _, _, _, _, _, _, _, _, _, _, _, _, _, _, _, _, _, _]) ⟨rfl, rfl, rfl, rfl, rfl, rfl, rfl, rfl, rfl, rfl, rfl, rfl, rfl, rfl, rfl, rfl, rfl, rfl, rfl, rfl, rfl, rfl, rfl, rfl, rfl, rfl, rfl, rfl, rfl, rfl, trivial⟩ ?_
        rintro w5 hR1 -
        refine ⟨?_⟩
        have hG_w5 : Grew wr w5 := (Grew.drew _).trans hR1
        clear hR1
        simp only [Act.put, List.setIfInBounds_toArray, List.set_cons_succ, List.set_cons_zero, dropN, putEach]
        have HM5 := Lib.hid (HM.out.grew hG_w5)
        have c1 := HM5.out.b2.at_ t
        rw [cells_get _ _ (by rw [arr_len _ (by rw [ws_len]; omega)]; omega)] at c1
        have c2 := HM5.out.b2.fz t
        have i1 : (t : Int) < 64 := by omega
        go_wp2_with fail
        go_roundw
        case rel =>
          refine ⟨t + 1, by go_num, by omega, ?_⟩
          have h := HM5.out.set2 t (be32 l t)
          have hx4 : (arr64 (ws l t)).set t (be32 l t) = arr64 (ws l (t + 1)) := by
            have := arr_setN (ws l t) (by rw [ws_len]; omega) (be32 l t)
            rw [ws_len] at this
            rw [this]; simp only [ws]; rw [if_pos hlt]
          rw [hx4, HBE.out] at h
          rw [HQ.out]
          exact h
        case measure => simp [intOf]; omega
    · have d1 : decide ((t : Int) < 16) = false := decide_eq_false (by omega)
      obtain rfl : t = 16 := by omega
      go_wp2_with fail
      try rw [show ((16 : Nat) : Int) = 16 from rfl]
      go_loopw [9] (fun iv wr => ∃ t : Nat, iv = .int .i64 (t : Int) ∧ 16 ≤ t ∧ t ≤ 64 ∧ MixR w ks s (arr64 (ws l t)) wr) (fun iv _ => 64 - (intOf iv).toNat)
      case atStart => exact ⟨16, rfl, by omega, by omega, hm⟩
      case round =>
        obtain ⟨t, rfl, h16, ht, hm2⟩ := hrel
        clear hm
        have hm := hm2
        clear hm2
        replace h16 : ¬ t < 16 := by omega
        by_cases hlt : t < 64
        · have d1 : decide ((t : Int) < 64) = true := decide_eq_true (by omega)
          have i64 : (t : Int) < 64 := by omega
          have hl64 : (arr64 (ws l t)).length = 64 := arr_len _ (by rw [ws_len]; omega)
          obtain ⟨n15, hn15⟩ : ∃ n, n = t - 15 := ⟨_, rfl⟩
          obtain ⟨n16, hn16⟩ : ∃ n, n = t - 16 := ⟨_, rfl⟩
          obtain ⟨n7, hn7⟩ : ∃ n, n = t - 7 := ⟨_, rfl⟩
          obtain ⟨n2, hn2⟩ : ∃ n, n = t - 2 := ⟨_, rfl⟩
          have e15 : IntKind.i64.wrap ((t : Int) - 15) = (n15 : Int) := by rw [IntWalk.i64_in _ (by omega)]; omega
          have e16 : IntKind.i64.wrap ((t : Int) - 16) = (n16 : Int) := by rw [IntWalk.i64_in _ (by omega)]; omega
          have e7 : IntKind.i64.wrap ((t : Int) - 7) = (n7 : Int) := by rw [IntWalk.i64_in _ (by omega)]; omega
          have e2 : IntKind.i64.wrap ((t : Int) - 2) = (n2 : Int) := by rw [IntWalk.i64_in _ (by omega)]; omega
          have l15 : n15 < 64 := by omega
          have i15 : (n15 : Int) < 64 := by omega
          have l16 : n16 < 64 := by omega
          have i16 : (n16 : Int) < 64 := by omega
          have l7 : n7 < 64 := by omega
          have i7 : (n7 : Int) < 64 := by omega
          have l2 : n2 < 64 := by omega
          have i2 : (n2 : Int) < 64 := by omega
          have c15 := hm.b2.at_ n15
          have c16 := hm.b2.at_ n16
          have c7 := hm.b2.at_ n7
          have c2 := hm.b2.at_ n2
          rw [cells_get _ _ (by omega), arr_get] at c15 c16 c7 c2
          obtain ⟨x15, hx15⟩ : ∃ x, x = (ws l t).getD n15 0 := ⟨_, rfl⟩
          obtain ⟨x16, hx16⟩ : ∃ x, x = (ws l t).getD n16 0 := ⟨_, rfl⟩
          obtain ⟨x7, hx7⟩ : ∃ x, x = (ws l t).getD n7 0 := ⟨_, rfl⟩
          obtain ⟨x2, hx2⟩ : ∃ x, x = (ws l t).getD n2 0 := ⟨_, rfl⟩
          rw [← hx15] at c15
          rw [← hx16] at c16
          rw [← hx7] at c7
          rw [← hx2] at c2
          have b15 : x15 < 4294967296 := by rw [hx15]; exact words_get (ws_words hlb t) _
          have b2 : x2 < 4294967296 := by rw [hx2]; exact words_get (ws_words hlb t) _
          have HN := Lib.hid (show wnext (ws l t) t = addW (addW (addW x16 x7) (sg0 x15)) (sg1 x2) from by rw [hx15, hx16, hx7, hx2, hn15, hn16, hn7, hn2]; rfl)
          have HM := Lib.hid hm
          have C15 := Lib.hid c15
          have C16 := Lib.hid c16
          have C7 := Lib.hid c7
          have C2 := Lib.hid c2
          have f1 := shr_3 x15
          have f2 := xor_w (rotW_lt 7 b15) (rotW_lt 18 b15)
          have f3 := xor_w (xorW_lt (rotW_lt 7 b15) (rotW_lt 18 b15)) (shrW_lt 3 b15)
          clear hm c15 c16 c7 c2 hx15 hx16 hx7 hx2 hn15 hn16 hn7 hn2 hl64
          go_wp2_with fail
          apply region_grew [Is _, Is _, Is _, Is _, Is _, Is _, Is _, Is _, Is _, Is _, Is _, Is _, Is _, Is _, Is _, Is _] [([(9, none)], none), ([(56, some 0)], none), ([(7, none), (57, some 1)], none), ([(58, some 2)], none), ([(59, some 3)], none), ([(9, none)], none), ([(61, some 5)], none), ([(7, none), (62, some 6)], none), ([(63, some 7)], none), ([(64, some 8)], none), ([(60, some 4), (65, some 9)], none), ([(9, none)], none), ([(67, some 11)], none), ([(7, none), (68, some 12)], none), ([(69, some 13)], none), ([(70, some 14)], none)] [(56, 0), (57, 1), (58, 2), (59, 3), (60, 4), (61, 5), (62, 6), (63, 7), (64, 8), (65, 9), (66, 10), (67, 11), (68, 12), (69, 13), (70, 14), (71, 15)] rfl (by kernel_rfl) (by kernel_rfl) (show Stable Grew _ from ⟨Is.stable _, Is.stable _, Is.stable _, Is.stable _, Is.stable _, Is.stable _, Is.stable _, Is.stable _, Is.stable _, Is.stable _, Is.stable _, Is.stable _, Is.stable _, Is.stable _, Is.stable _, Is.stable _, trivial⟩)
          · show OpsHold _ _ _ _ _ _ _ _ _
            refine ⟨fun a_ wx hR hD K hK => ?_, ?_⟩
            · have hG : Grew wr wx := (Grew.drew _).trans hR
              simp [Deps, Dep, at_, Is] at hD
              go_simp
              exact hK _ _ (Grew.refl _) rfl
            refine ⟨fun a_ wx hR hD K hK => ?_, ?_⟩
            · have hG : Grew wr wx := (Grew.drew _).trans hR
              simp [Deps, Dep, at_, Is] at hD
              go_simp
              exact hK _ _ (Grew.refl _) rfl
            refine ⟨fun a_ wx hR hD K hK => ?_, ?_⟩
            · have hG : Grew wr wx := (Grew.drew _).trans hR
              simp [Deps, Dep, at_, Is] at hD
              obtain ⟨hd0, hd1⟩ := hD
              go_simp
              exact hK _ _ (Grew.refl _) rfl
            refine ⟨fun a_ wx hR hD K hK => ?_, ?_⟩
            · have hG : Grew wr wx := (Grew.drew _).trans hR
              simp [Deps, Dep, at_, Is] at hD
              have e_ := pw_cell_below hG C15.out
              go_simp
              exact hK _ _ (Grew.refl _) rfl
            refine ⟨fun a_ wx hR hD K hK => ?_, ?_⟩
            · have hG : Grew wr wx := (Grew.drew _).trans hR
              simp [Deps, Dep, at_, Is] at hD
              go_simp
              have hcn := rturn_n x15 7 7 rfl b15 (by omega) (by omega) wx
              with_reducible refine hcn.mono ?_
              clear hcn
              rintro e wy ⟨v, rfl, hv, hg⟩
              exact hK _ _ hg hv
            refine ⟨fun a_ wx hR hD K hK => ?_, ?_⟩
            · have hG : Grew wr wx := (Grew.drew _).trans hR
              simp [Deps, Dep, at_, Is] at hD
              go_simp
              exact hK _ _ (Grew.refl _) rfl
            refine ⟨fun a_ wx hR hD K hK => ?_, ?_⟩
            · have hG : Grew wr wx := (Grew.drew _).trans hR
              simp [Deps, Dep, at_, Is] at hD
              go_simp
              exact hK _ _ (Grew.refl _) rfl
            refine ⟨fun a_ wx hR hD K hK => ?_, ?_⟩
            · have hG : Grew wr wx := (Grew.drew _).trans hR
              simp [Deps, Dep, at_, Is] at hD
              obtain ⟨hd0, hd1⟩ := hD
              go_simp
              exact hK _ _ (Grew.refl _) rfl
            refine ⟨fun a_ wx hR hD K hK => ?_, ?_⟩
            · have hG : Grew wr wx := (Grew.drew _).trans hR
              simp [Deps, Dep, at_, Is] at hD
              have e_ := pw_cell_below hG C15.out
              go_simp
              exact hK _ _ (Grew.refl _) rfl
            refine ⟨fun a_ wx hR hD K hK => ?_, ?_⟩
            · have hG : Grew wr wx := (Grew.drew _).trans hR
              simp [Deps, Dep, at_, Is] at hD
              go_simp
              have hcn := rturn_n x15 18 18 rfl b15 (by omega) (by omega) wx
              with_reducible refine hcn.mono ?_
              clear hcn
              rintro e wy ⟨v, rfl, hv, hg⟩
              exact hK _ _ hg hv
            refine ⟨fun a_ wx hR hD K hK => ?_, ?_⟩
            · have hG : Grew wr wx := (Grew.drew _).trans hR
              simp [Deps, Dep, at_, Is] at hD
              obtain ⟨hd0, hd1⟩ := hD
              go_simp
              exact hK _ _ (Grew.refl _) rfl
            refine ⟨fun a_ wx hR hD K hK => ?_, ?_⟩
            · have hG : Grew wr wx := (Grew.drew _).trans hR
              simp [Deps, Dep, at_, Is] at hD
              go_simp
              exact hK _ _ (Grew.refl _) rfl
            refine ⟨fun a_ wx hR hD K hK => ?_, ?_⟩
            · have hG : Grew wr wx := (Grew.drew _).trans hR
              simp [Deps, Dep, at_, Is] at hD
              go_simp
              exact hK _ _ (Grew.refl _) rfl
            refine ⟨fun a_ wx hR hD K hK => ?_, ?_⟩
            · have hG : Grew wr wx := (Grew.drew _).trans hR
              simp [Deps, Dep, at_, Is] at hD
              obtain ⟨hd0, hd1⟩ := hD
              go_simp
              exact hK _ _ (Grew.refl _) rfl
            refine ⟨fun a_ wx hR hD K hK => ?_, ?_⟩
            · have hG : Grew wr wx := (Grew.drew _).trans hR
              simp [Deps, Dep, at_, Is] at hD
              have e_ := pw_cell_below hG C15.out
              go_simp
              exact hK _ _ (Grew.refl _) rfl
            refine ⟨fun a_ wx hR hD K hK => ?_, ?_⟩
            · have hG : Grew wr wx := (Grew.drew _).trans hR
              simp [Deps, Dep, at_, Is] at hD
              go_simp
              exact hK _ _ (Grew.refl _) rfl
            trivial
          · show EndHold _ _ _ _ _ _ _
            refine end_all (xs := [_, _, _, _, _, _, _, _, _, _, _, _, _, _, _, _]) ⟨rfl, rfl, rfl, rfl, rfl, rfl, rfl, rfl, rfl, rfl, rfl, rfl, rfl, rfl, rfl, rfl, trivial⟩ ?_
            rintro w5 hR1 -
            refine ⟨?_⟩
            have hG_w5 : Grew wr w5 := (Grew.drew _).trans hR1
            clear hR1
            simp only [Act.put, List.setIfInBounds_toArray, List.set_cons_succ, List.set_cons_zero, dropN, putEach]
            go_wp2_with fail
            have C2' := Lib.hid (pw_cell_below hG_w5 C2.out)
            have g1 := shr_10 x2
            have g2 := xor_w (rotW_lt 17 b2) (rotW_lt 19 b2)
            have g3 := xor_w (xorW_lt (rotW_lt 17 b2) (rotW_lt 19 b2)) (shrW_lt 10 b2)
            apply region_grew [Is _, Is _, Is _, Is _, Is _, Is _, Is _, Is _, Is _, Is _, Is _, Is _, Is _, Is _, Is _, Is _] [([(9, none)], none), ([(73, some 0)], none), ([(7, none), (74, some 1)], none), ([(75, some 2)], none), ([(76, some 3)], none), ([(9, none)], none), ([(78, some 5)], none), ([(7, none), (79, some 6)], none), ([(80, some 7)], none), ([(81, some 8)], none), ([(77, some 4), (82, some 9)], none), ([(9, none)], none), ([(84, some 11)], none), ([(7, none), (85, some 12)], none), ([(86, some 13)], none), ([(87, some 14)], none)] [(73, 0), (74, 1), (75, 2), (76, 3), (77, 4), (78, 5), (79, 6), (80, 7), (81, 8), (82, 9), (83, 10), (84, 11), (85, 12), (86, 13), (87, 14), (88, 15)] rfl (by kernel_rfl) (by kernel_rfl) (show Stable Grew _ from ⟨Is.stable _, Is.stable _, Is.stable _, Is.stable _, Is.stable _, Is.stable _, Is.stable _, Is.stable _, Is.stable _, Is.stable _, Is.stable _, Is.stable _, Is.stable _, Is.stable _, Is.stable _, Is.stable _, trivial⟩)
            · show OpsHold _ _ _ _ _ _ _ _ _
              refine ⟨fun a_ wx hR hD K hK => ?_, ?_⟩
              · have hG : Grew w5 wx := (Grew.drew _).trans hR
                simp [Deps, Dep, at_, Is] at hD
                go_simp
                exact hK _ _ (Grew.refl _) rfl
              refine ⟨fun a_ wx hR hD K hK => ?_, ?_⟩
              · have hG : Grew w5 wx := (Grew.drew _).trans hR
                simp [Deps, Dep, at_, Is] at hD
                go_simp
                exact hK _ _ (Grew.refl _) rfl
              refine ⟨fun a_ wx hR hD K hK => ?_, ?_⟩
              · have hG : Grew w5 wx := (Grew.drew _).trans hR
                simp [Deps, Dep, at_, Is] at hD
                obtain ⟨hd0, hd1⟩ := hD
                go_simp
                exact hK _ _ (Grew.refl _) rfl
              refine ⟨fun a_ wx hR hD K hK => ?_, ?_⟩
              · have hG : Grew w5 wx := (Grew.drew _).trans hR
                simp [Deps, Dep, at_, Is] at hD
                have e_ := pw_cell_below hG C2'.out
                go_simp
                exact hK _ _ (Grew.refl _) rfl
              refine ⟨fun a_ wx hR hD K hK => ?_, ?_⟩
              · have hG : Grew w5 wx := (Grew.drew _).trans hR
                simp [Deps, Dep, at_, Is] at hD
                go_simp
                have hcn := rturn_n x2 17 17 rfl b2 (by omega) (by omega) wx
                with_reducible refine hcn.mono ?_
                clear hcn
                rintro e wy ⟨v, rfl, hv, hg⟩
                exact hK _ _ hg hv
              refine ⟨fun a_ wx hR hD K hK => ?_, ?_⟩
              · have hG : Grew w5 wx := (Grew.drew _).trans hR
                simp [Deps, Dep, at_, Is] at hD
                go_simp
                exact hK _ _ (Grew.refl _) rfl
              refine ⟨fun a_ wx hR hD K hK => ?_, ?_⟩
              · have hG : Grew w5 wx := (Grew.drew _).trans hR
                simp [Deps, Dep, at_, Is] at hD
                go_simp
                exact hK _ _ (Grew.refl _) rfl
              refine ⟨fun a_ wx hR hD K hK => ?_, ?_⟩
              · have hG : Grew w5 wx := (Grew.drew _).trans hR
                simp [Deps, Dep, at_, Is] at hD
                obtain ⟨hd0, hd1⟩ := hD
                go_simp
                exact hK _ _ (Grew.refl _) rfl
              refine ⟨fun a_ wx hR hD K hK => ?_, ?_⟩
              · have hG : Grew w5 wx := (Grew.drew _).trans hR
                simp [Deps, Dep, at_, Is] at hD
                have e_ := pw_cell_below hG C2'.out
                go_simp
                exact hK _ _ (Grew.refl _) rfl
              refine ⟨fun a_ wx hR hD K hK => ?_, ?_⟩
              · have hG : Grew w5 wx := (Grew.drew _).trans hR
                simp [Deps, Dep, at_, Is] at hD
                go_simp
                have hcn := rturn_n x2 19 19 rfl b2 (by omega) (by omega) wx
                with_reducible refine hcn.mono ?_
                clear hcn
                rintro e wy ⟨v, rfl, hv, hg⟩
                exact hK _ _ hg hv
              refine ⟨fun a_ wx hR hD K hK => ?_, ?_⟩
              · have hG : Grew w5 wx := (Grew.drew _).trans hR
                simp [Deps, Dep, at_, Is] at hD
                obtain ⟨hd0, hd1⟩ := hD
                go_simp
                exact hK _ _ (Grew.refl _) rfl
              refine ⟨fun a_ wx hR hD K hK => ?_, ?_⟩
              · have hG : Grew w5 wx := (Grew.drew _).trans hR
                simp [Deps, Dep, at_, Is] at hD
                go_simp
                exact hK _ _ (Grew.refl _) rfl
              refine ⟨fun a_ wx hR hD K hK => ?_, ?_⟩
              · have hG : Grew w5 wx := (Grew.drew _).trans hR
                simp [Deps, Dep, at_, Is] at hD
                go_simp
                exact hK _ _ (Grew.refl _) rfl
              refine ⟨fun a_ wx hR hD K hK => ?_, ?_⟩
              · have hG : Grew w5 wx := (Grew.drew _).trans hR
                simp [Deps, Dep, at_, Is] at hD
                obtain ⟨hd0, hd1⟩ := hD
                go_simp
                exact hK _ _ (Grew.refl _) rfl
              refine ⟨fun a_ wx hR hD K hK => ?_, ?_⟩
              · have hG : Grew w5 wx := (Grew.drew _).trans hR
                simp [Deps, Dep, at_, Is] at hD
                have e_ := pw_cell_below hG C2'.out
                go_simp
                exact hK _ _ (Grew.refl _) rfl
              refine ⟨fun a_ wx hR hD K hK => ?_, ?_⟩
              · have hG : Grew w5 wx := (Grew.drew _).trans hR
                simp [Deps, Dep, at_, Is] at hD
                go_simp
                exact hK _ _ (Grew.refl _) rfl
              trivial
            · show EndHold _ _ _ _ _ _ _
              refine end_all (xs := [_, _, _, _, _, _, _, _, _, _, _, _, _, _, _, _]) ⟨rfl, rfl, rfl, rfl, rfl, rfl, rfl, rfl, rfl, rfl, rfl, rfl, rfl, rfl, rfl, rfl, trivial⟩ ?_
              rintro w6 hR1 -
              refine ⟨?_⟩
              have hG_w6 : Grew w5 w6 := (Grew.drew _).trans hR1
              clear hR1
              simp only [Act.put, List.setIfInBounds_toArray, List.set_cons_succ, List.set_cons_zero, dropN, putEach]
              go_wp2_with fail
              have C16' := Lib.hid (pw_cell_below (hG_w5.trans hG_w6) C16.out)
              have C7' := Lib.hid (pw_cell_below (hG_w5.trans hG_w6) C7.out)
              have a1 := add_w x16 x7
              have a2 := add_w (addW x16 x7) (xorW (xorW (rotW x15 7) (rotW x15 18)) (shrW x15 3))
              have a3 := add_w (addW (addW x16 x7) (xorW (xorW (rotW x15 7) (rotW x15 18)) (shrW x15 3))) (xorW (xorW (rotW x2 17) (rotW x2 19)) (shrW x2 10))
              apply region_grew [Is _, Is _, Is _, Is _, Is _, Is _, Is _, Is _, Is _, Is _, Is _, Is _, Is _, Is _] [([(9, none)], none), ([(9, none)], none), ([(91, some 1)], none), ([(7, none), (92, some 2)], none), ([(93, some 3)], none), ([(9, none)], none), ([(95, some 5)], none), ([(7, none), (96, some 6)], none), ([(97, some 7)], none), ([(94, some 4), (98, some 8)], none), ([(10, none)], none), ([(99, some 9), (100, some 10)], none), ([(11, none)], none), ([(101, some 11), (102, some 12)], none)] [(90, 0), (91, 1), (92, 2), (93, 3), (94, 4), (95, 5), (96, 6), (97, 7), (98, 8), (99, 9), (100, 10), (101, 11), (102, 12), (103, 13)] rfl (by kernel_rfl) (by kernel_rfl) (show Stable Grew _ from ⟨Is.stable _, Is.stable _, Is.stable _, Is.stable _, Is.stable _, Is.stable _, Is.stable _, Is.stable _, Is.stable _, Is.stable _, Is.stable _, Is.stable _, Is.stable _, Is.stable _, trivial⟩)
              · show OpsHold _ _ _ _ _ _ _ _ _
                refine ⟨fun a_ wx hR hD K hK => ?_, ?_⟩
                · have hG : Grew w6 wx := (Grew.drew _).trans hR
                  simp [Deps, Dep, at_, Is] at hD
                  go_simp
                  exact hK _ _ (Grew.refl _) rfl
                refine ⟨fun a_ wx hR hD K hK => ?_, ?_⟩
                · have hG : Grew w6 wx := (Grew.drew _).trans hR
                  simp [Deps, Dep, at_, Is] at hD
                  go_simp
                  exact hK _ _ (Grew.refl _) rfl
                refine ⟨fun a_ wx hR hD K hK => ?_, ?_⟩
                · have hG : Grew w6 wx := (Grew.drew _).trans hR
                  simp [Deps, Dep, at_, Is] at hD
                  go_simp
                  exact hK _ _ (Grew.refl _) rfl
                refine ⟨fun a_ wx hR hD K hK => ?_, ?_⟩
                · have hG : Grew w6 wx := (Grew.drew _).trans hR
                  simp [Deps, Dep, at_, Is] at hD
                  obtain ⟨hd0, hd1⟩ := hD
                  go_simp
                  exact hK _ _ (Grew.refl _) rfl
                refine ⟨fun a_ wx hR hD K hK => ?_, ?_⟩
                · have hG : Grew w6 wx := (Grew.drew _).trans hR
                  simp [Deps, Dep, at_, Is] at hD
                  have e_ := pw_cell_below hG C16'.out
                  go_simp
                  exact hK _ _ (Grew.refl _) rfl
                refine ⟨fun a_ wx hR hD K hK => ?_, ?_⟩
                · have hG : Grew w6 wx := (Grew.drew _).trans hR
                  simp [Deps, Dep, at_, Is] at hD
                  go_simp
                  exact hK _ _ (Grew.refl _) rfl
                refine ⟨fun a_ wx hR hD K hK => ?_, ?_⟩
                · have hG : Grew w6 wx := (Grew.drew _).trans hR
                  simp [Deps, Dep, at_, Is] at hD
                  go_simp
                  exact hK _ _ (Grew.refl _) rfl
                refine ⟨fun a_ wx hR hD K hK => ?_, ?_⟩
                · have hG : Grew w6 wx := (Grew.drew _).trans hR
                  simp [Deps, Dep, at_, Is] at hD
                  obtain ⟨hd0, hd1⟩ := hD
                  go_simp
                  exact hK _ _ (Grew.refl _) rfl
                refine ⟨fun a_ wx hR hD K hK => ?_, ?_⟩
                · have hG : Grew w6 wx := (Grew.drew _).trans hR
                  simp [Deps, Dep, at_, Is] at hD
                  have e_ := pw_cell_below hG C7'.out
                  go_simp
                  exact hK _ _ (Grew.refl _) rfl
                refine ⟨fun a_ wx hR hD K hK => ?_, ?_⟩
                · have hG : Grew w6 wx := (Grew.drew _).trans hR
                  simp [Deps, Dep, at_, Is] at hD
                  obtain ⟨hd0, hd1⟩ := hD
                  go_simp
                  exact hK _ _ (Grew.refl _) rfl
                refine ⟨fun a_ wx hR hD K hK => ?_, ?_⟩
                · have hG : Grew w6 wx := (Grew.drew _).trans hR
                  simp [Deps, Dep, at_, Is] at hD
                  go_simp
                  exact hK _ _ (Grew.refl _) rfl
                refine ⟨fun a_ wx hR hD K hK => ?_, ?_⟩
                · have hG : Grew w6 wx := (Grew.drew _).trans hR
                  simp [Deps, Dep, at_, Is] at hD
                  obtain ⟨hd0, hd1⟩ := hD
                  go_simp
                  exact hK _ _ (Grew.refl _) rfl
                refine ⟨fun a_ wx hR hD K hK => ?_, ?_⟩
                · have hG : Grew w6 wx := (Grew.drew _).trans hR
                  simp [Deps, Dep, at_, Is] at hD
                  go_simp
                  exact hK _ _ (Grew.refl _) rfl
                refine ⟨fun a_ wx hR hD K hK => ?_, ?_⟩
                · have hG : Grew w6 wx := (Grew.drew _).trans hR
                  simp [Deps, Dep, at_, Is] at hD
                  obtain ⟨hd0, hd1⟩ := hD
                  go_simp
                  exact hK _ _ (Grew.refl _) rfl
                trivial
              · show EndHold _ _ _ _ _ _ _
                refine end_all (xs := [_, _, _, _, _, _, _, _, _, _, _, _, _, _]) ⟨rfl, rfl, rfl, rfl, rfl, rfl, rfl, rfl, rfl, rfl, rfl, rfl, rfl, rfl, trivial⟩ ?_
                rintro w7 hR1 -
                refine ⟨?_⟩
                have hG_w7 : Grew w6 w7 := (Grew.drew _).trans hR1
                clear hR1
                simp only [Act.put, List.setIfInBounds_toArray, List.set_cons_succ, List.set_cons_zero, dropN, putEach]
                have HM7 := Lib.hid (HM.out.grew ((hG_w5.trans hG_w6).trans hG_w7))
                have c1 := HM7.out.b2.at_ t
                rw [cells_get _ _ (by rw [arr_len _ (by rw [ws_len]; omega)]; omega)] at c1
                have c2 := HM7.out.b2.fz t
                go_wp2_with fail
                go_roundw
                case rel =>
                  refine ⟨t + 1, by go_num, by omega, by omega, ?_⟩
                  have h := HM7.out.set2 t (addW (addW (addW x16 x7) (sg0 x15)) (sg1 x2))
                  rw [← HN.out] at h
                  have hx4 : (arr64 (ws l t)).set t (wnext (ws l t) t) = arr64 (ws l (t + 1)) := by
                    have := arr_setN (ws l t) (by rw [ws_len]; omega) (wnext (ws l t) t)
                    rw [ws_len] at this
                    rw [this]; simp only [ws]; rw [if_neg h16]
                  rw [hx4, HN.out] at h
                  exact h
                case measure => simp [intOf]; omega
        · have d1 : decide ((t : Int) < 64) = false := decide_eq_false (by omega)
          obtain rfl : t = 64 := by omega
          have hx64 : (arr64 (ws l 64)) = ws l 64 := by unfold arr64; rw [ws_len]; simp
          rw [hx64] at hm
          have hxl := ws_len l 64
          obtain ⟨x, hx⟩ : ∃ x, x = ws l 64 := ⟨_, rfl⟩
          rw [← hx] at hm hxl
          have hok := St.of_ok hsw
          obtain ⟨S0, hS0⟩ : ∃ S0, S0 = St.of s := ⟨_, rfl⟩
          have hsS : s = S0.list := by rw [hS0]; exact (St.of_list s hsl).symm
          rw [← hS0] at hok
          have HM := Lib.hid hm
          have H0 := Lib.hid hm.b0
          have HX := Lib.hid hx
          have HS := Lib.hid hS0
          have HSS := Lib.hid hsS
          have HXL := Lib.hid hxl
          have HKL := Lib.hid hkl
          have HSL := Lib.hid hsl
          clear hm hx hS0 hxl hkl hx64 hsl hl hsS
          go_wp2_with (first
            | refine wpList_load_blk H0.out (by rfl) 82 (.tmp 4) (by rfl) (by rfl) _ Try.underlying82 (by rfl) (by rw [wcells_len, HSL.out]; kernel_rfl) ?_
            | refine wpList_store_blk (c := wcells s) (Blk.new _ 82 (wcells (List.replicate 8 0))) (by rfl) 82 (.tmp 12) (.tmp 105) (by rfl) (by rfl) (by rfl) (by rw [wcells_len, HSL.out]; kernel_rfl) (by rw [wcells_len, wcells_len, HSL.out]; rfl) (wcells_one _) ?_)
          obtain ⟨gz, hgz⟩ : ∃ gz, gz = wr.heap.size := ⟨_, rfl⟩
          have hz0 : MixZ w ks s x S0.list gz ((wr.alloc (.cells (wcells (List.replicate 8 0)).toArray 82)).setRow gz (wcells s).toArray) := by
            have h1 : MixZ w ks s x (List.replicate 8 0) gz (wr.alloc (.cells (wcells (List.replicate 8 0)).toArray 82)) := ⟨HM.out.grew (Grew.alloc _ _), by rw [hgz]; exact Blk.new _ _ _, by rw [hgz]; exact HM.out.b2.lt⟩
            have h2 := h1.setz s
            rw [← HSS.out]
            exact h2
          rw [← hgz]
          try rw [show ((64 : Nat) : Int) = 64 from rfl]
          obtain ⟨W2, hW2⟩ : ∃ W2, W2 = ((wr.alloc (.cells (wcells (List.replicate 8 0)).toArray 82)).setRow gz (wcells s).toArray) := ⟨_, rfl⟩
          rw [← hW2] at hz0
          simp only [zeros8]
          rw [← hW2]
          clear hW2 H0 hgz
          go_loopw [13] (fun iv wq => ∃ t : Nat, iv = .int .i64 (t : Int) ∧ t ≤ 64 ∧ MixZ w ks s x (rn ks x t S0).list gz wq) (fun iv _ => 64 - (intOf iv).toNat)
          case atStart => exact ⟨0, rfl, by omega, hz0⟩
          case round =>
            obtain ⟨t, rfl, ht, hmq⟩ := hrel
            clear hz0
            by_cases hlt : t < 64
            · have d1 : decide ((t : Int) < 64) = true := decide_eq_true (by omega)
              have i1 : (t : Int) < 64 := by omega
              have hokt := rn_ok hok (ks := ks) (ws := x) t
              have hst : rn ks x (t + 1) S0 = rstep (ks.getD t 0) (x.getD t 0) (rn ks x t S0) := rfl
              have ck := hmq.m.bk.at_ t
              rw [cells_get _ _ (by rw [HKL.out]; omega)] at ck
              have cx := hmq.m.b2.at_ t
              rw [cells_get _ _ (by rw [HXL.out]; omega)] at cx
              obtain ⟨k, hk⟩ : ∃ k, k = ks.getD t 0 := ⟨_, rfl⟩
              obtain ⟨y, hy⟩ : ∃ y, y = x.getD t 0 := ⟨_, rfl⟩
              rw [← hk] at ck hst
              rw [← hy] at cx hst
              obtain ⟨S, hS⟩ : ∃ S, S = rn ks x t S0 := ⟨_, rfl⟩
              rw [← hS] at hokt hst hmq
              obtain ⟨a, b, c', d, e, f, g, hh⟩ := S
              obtain ⟨ba, bb, bc, bd, be, bf, bg, bh⟩ := hokt
              simp only [] at ba bb bc bd be bf bg bh ⊢
              have D0 := Lib.hid (show wr.cell? ⟨gz, 0, none⟩ = some (.int .u32 (a : Int)) from by rw [hmq.bz.at_]; rfl)
              have D1 := Lib.hid (show wr.cell? ⟨gz, 1, none⟩ = some (.int .u32 (b : Int)) from by rw [hmq.bz.at_]; rfl)
              have D2 := Lib.hid (show wr.cell? ⟨gz, 2, none⟩ = some (.int .u32 (c' : Int)) from by rw [hmq.bz.at_]; rfl)
              have D3 := Lib.hid (show wr.cell? ⟨gz, 3, none⟩ = some (.int .u32 (d : Int)) from by rw [hmq.bz.at_]; rfl)
              have D4 := Lib.hid (show wr.cell? ⟨gz, 4, none⟩ = some (.int .u32 (e : Int)) from by rw [hmq.bz.at_]; rfl)
              have D5 := Lib.hid (show wr.cell? ⟨gz, 5, none⟩ = some (.int .u32 (f : Int)) from by rw [hmq.bz.at_]; rfl)
              have D6 := Lib.hid (show wr.cell? ⟨gz, 6, none⟩ = some (.int .u32 (g : Int)) from by rw [hmq.bz.at_]; rfl)
              have D7 := Lib.hid (show wr.cell? ⟨gz, 7, none⟩ = some (.int .u32 (hh : Int)) from by rw [hmq.bz.at_]; rfl)
              have HST := Lib.hid hst
              have CK := Lib.hid ck
              have CX := Lib.hid cx
              have HM := Lib.hid hmq
              clear hst ck cx hmq hk hy hS
              have q0 := notr be
              have q1 := xor_w (rotW_lt 6 be) (rotW_lt 11 be)
              have q2 := xor_w (xorW_lt (rotW_lt 6 be) (rotW_lt 11 be)) (rotW_lt 25 be)
              have q3 := add_w hh (xorW (xorW (rotW e 6) (rotW e 11)) (rotW e 25))
              have q4 := and_w be bf
              have q5 := and_w (notW_lt e) bg
              have q6 := xor_w (andW_lt f be) (andW_lt g (notW_lt e))
              obtain ⟨z1, hz1⟩ : ∃ z, z = addW hh (xorW (xorW (rotW e 6) (rotW e 11)) (rotW e 25)) := ⟨_, rfl⟩
              rw [← hz1] at q3
              obtain ⟨z2, hz2⟩ : ∃ z, z = xorW (andW e f) (andW (notW e) g) := ⟨_, rfl⟩
              rw [← hz2] at q6
              have q7 := add_w z1 z2
              have q8 := add_w (addW z1 z2) k
              have q9 := add_w (addW (addW z1 z2) k) y
              have HZ1 := Lib.hid hz1
              have HZ2 := Lib.hid hz2
              clear hz1 hz2
              go_wp2_with fail
              apply region_grew [Is _, Is _, Is _, Is _, Is _, Is _, Is _, Is _, Is _, Is _, Is _, Is _, Is _, Is _, Is _, Is _, Is _, Is _, Is _, Is _, Is _, Is _, Is _, Is _, Is _, Is _, Is _, Is _, Is _, Is _, Is _, Is _, Is _, Is _] [([(12, none)], none), ([(110, some 0)], none), ([(12, none)], none), ([(112, some 2)], none), ([(113, some 3)], none), ([(12, none)], none), ([(115, some 5)], none), ([(116, some 6)], none), ([(114, some 4), (117, some 7)], none), ([(12, none)], none), ([(119, some 9)], none), ([(120, some 10)], none), ([(118, some 8), (121, some 11)], none), ([(111, some 1), (122, some 12)], none), ([(12, none)], none), ([(124, some 14)], none), ([(12, none)], none), ([(126, some 16)], none), ([(125, some 15), (127, some 17)], none), ([(12, none)], none), ([(129, some 19)], none), ([(130, some 20)], none), ([(12, none)], none), ([(132, some 22)], none), ([(131, some 21), (133, some 23)], none), ([(128, some 18), (134, some 24)], none), ([(123, some 13), (135, some 25)], none), ([(13, none)], none), ([(3, none), (137, some 27)], none), ([(138, some 28)], none), ([(136, some 26), (139, some 29)], none), ([(13, none)], none), ([(7, none), (141, some 31)], none), ([(142, some 32)], none)] [(110, 0), (111, 1), (112, 2), (113, 3), (114, 4), (115, 5), (116, 6), (117, 7), (118, 8), (119, 9), (120, 10), (121, 11), (122, 12), (123, 13), (124, 14), (125, 15), (126, 16), (127, 17), (128, 18), (129, 19), (130, 20), (131, 21), (132, 22), (133, 23), (134, 24), (135, 25), (136, 26), (137, 27), (138, 28), (139, 29), (140, 30), (141, 31), (142, 32), (143, 33)] rfl (by kernel_rfl) (by kernel_rfl) (show Stable Grew _ from ⟨Is.stable _, Is.stable _, Is.stable _, Is.stable _, Is.stable _, Is.stable _, Is.stable _, Is.stable _, Is.stable _, Is.stable _, Is.stable _, Is.stable _, Is.stable _, Is.stable _, Is.stable _, Is.stable _, Is.stable _, Is.stable _, Is.stable _, Is.stable _, Is.stable _, Is.stable _, Is.stable _, Is.stable _, Is.stable _, Is.stable _, Is.stable _, Is.stable _, Is.stable _, Is.stable _, Is.stable _, Is.stable _, Is.stable _, Is.stable _, trivial⟩)
              · show OpsHold _ _ _ _ _ _ _ _ _
                refine ⟨fun a_ wx hR hD K hK => ?_, ?_⟩
                · have hG : Grew wr wx := (Grew.drew _).trans hR
                  simp [Deps, Dep, at_, Is] at hD
                  go_simp
                  exact hK _ _ (Grew.refl _) rfl
                refine ⟨fun a_ wx hR hD K hK => ?_, ?_⟩
                · have hG : Grew wr wx := (Grew.drew _).trans hR
                  simp [Deps, Dep, at_, Is] at hD
                  have e_ := pw_cell_below hG D7.out
                  go_simp
                  exact hK _ _ (Grew.refl _) rfl
                refine ⟨fun a_ wx hR hD K hK => ?_, ?_⟩
                · have hG : Grew wr wx := (Grew.drew _).trans hR
                  simp [Deps, Dep, at_, Is] at hD
                  go_simp
                  exact hK _ _ (Grew.refl _) rfl
                refine ⟨fun a_ wx hR hD K hK => ?_, ?_⟩
                · have hG : Grew wr wx := (Grew.drew _).trans hR
                  simp [Deps, Dep, at_, Is] at hD
                  have e_ := pw_cell_below hG D4.out
                  go_simp
                  exact hK _ _ (Grew.refl _) rfl
                refine ⟨fun a_ wx hR hD K hK => ?_, ?_⟩
                · have hG : Grew wr wx := (Grew.drew _).trans hR
                  simp [Deps, Dep, at_, Is] at hD
                  go_simp
                  have hcn := rturn_n e 6 6 rfl be (by omega) (by omega) wx
                  with_reducible refine hcn.mono ?_
                  clear hcn
                  rintro e wy ⟨v, rfl, hv, hg⟩
                  exact hK _ _ hg hv
                refine ⟨fun a_ wx hR hD K hK => ?_, ?_⟩
                · have hG : Grew wr wx := (Grew.drew _).trans hR
                  simp [Deps, Dep, at_, Is] at hD
                  go_simp
                  exact hK _ _ (Grew.refl _) rfl
                refine ⟨fun a_ wx hR hD K hK => ?_, ?_⟩
                · have hG : Grew wr wx := (Grew.drew _).trans hR
                  simp [Deps, Dep, at_, Is] at hD
                  have e_ := pw_cell_below hG D4.out
                  go_simp
                  exact hK _ _ (Grew.refl _) rfl
                refine ⟨fun a_ wx hR hD K hK => ?_, ?_⟩
                · have hG : Grew wr wx := (Grew.drew _).trans hR
                  simp [Deps, Dep, at_, Is] at hD
                  go_simp
                  have hcn := rturn_n e 11 11 rfl be (by omega) (by omega) wx
                  with_reducible refine hcn.mono ?_
                  clear hcn
                  rintro e wy ⟨v, rfl, hv, hg⟩
                  exact hK _ _ hg hv
                refine ⟨fun a_ wx hR hD K hK => ?_, ?_⟩
                · have hG : Grew wr wx := (Grew.drew _).trans hR
                  simp [Deps, Dep, at_, Is] at hD
                  obtain ⟨hd0, hd1⟩ := hD
                  go_simp
                  exact hK _ _ (Grew.refl _) rfl
                refine ⟨fun a_ wx hR hD K hK => ?_, ?_⟩
                · have hG : Grew wr wx := (Grew.drew _).trans hR
                  simp [Deps, Dep, at_, Is] at hD
                  go_simp
                  exact hK _ _ (Grew.refl _) rfl
                refine ⟨fun a_ wx hR hD K hK => ?_, ?_⟩
                · have hG : Grew wr wx := (Grew.drew _).trans hR
                  simp [Deps, Dep, at_, Is] at hD
                  have e_ := pw_cell_below hG D4.out
                  go_simp
                  exact hK _ _ (Grew.refl _) rfl
                refine ⟨fun a_ wx hR hD K hK => ?_, ?_⟩
                · have hG : Grew wr wx := (Grew.drew _).trans hR
                  simp [Deps, Dep, at_, Is] at hD
                  go_simp
                  have hcn := rturn_n e 25 25 rfl be (by omega) (by omega) wx
                  with_reducible refine hcn.mono ?_
                  clear hcn
                  rintro e wy ⟨v, rfl, hv, hg⟩
                  exact hK _ _ hg hv
                refine ⟨fun a_ wx hR hD K hK => ?_, ?_⟩
                · have hG : Grew wr wx := (Grew.drew _).trans hR
                  simp [Deps, Dep, at_, Is] at hD
                  obtain ⟨hd0, hd1⟩ := hD
                  go_simp
                  exact hK _ _ (Grew.refl _) rfl
                refine ⟨fun a_ wx hR hD K hK => ?_, ?_⟩
                · have hG : Grew wr wx := (Grew.drew _).trans hR
                  simp [Deps, Dep, at_, Is] at hD
                  obtain ⟨hd0, hd1⟩ := hD
                  go_simp
                  exact hK _ _ (Grew.refl _) rfl
                refine ⟨fun a_ wx hR hD K hK => ?_, ?_⟩
                · have hG : Grew wr wx := (Grew.drew _).trans hR
                  simp [Deps, Dep, at_, Is] at hD
                  go_simp
                  exact hK _ _ (Grew.refl _) rfl
                refine ⟨fun a_ wx hR hD K hK => ?_, ?_⟩
                · have hG : Grew wr wx := (Grew.drew _).trans hR
                  simp [Deps, Dep, at_, Is] at hD
                  have e_ := pw_cell_below hG D4.out
                  go_simp
                  exact hK _ _ (Grew.refl _) rfl
                refine ⟨fun a_ wx hR hD K hK => ?_, ?_⟩
                · have hG : Grew wr wx := (Grew.drew _).trans hR
                  simp [Deps, Dep, at_, Is] at hD
                  go_simp
                  exact hK _ _ (Grew.refl _) rfl
                refine ⟨fun a_ wx hR hD K hK => ?_, ?_⟩
                · have hG : Grew wr wx := (Grew.drew _).trans hR
                  simp [Deps, Dep, at_, Is] at hD
                  have e_ := pw_cell_below hG D5.out
                  go_simp
                  exact hK _ _ (Grew.refl _) rfl
                refine ⟨fun a_ wx hR hD K hK => ?_, ?_⟩
                · have hG : Grew wr wx := (Grew.drew _).trans hR
                  simp [Deps, Dep, at_, Is] at hD
                  obtain ⟨hd0, hd1⟩ := hD
                  go_simp
                  exact hK _ _ (Grew.refl _) rfl
                refine ⟨fun a_ wx hR hD K hK => ?_, ?_⟩
                · have hG : Grew wr wx := (Grew.drew _).trans hR
                  simp [Deps, Dep, at_, Is] at hD
                  go_simp
                  exact hK _ _ (Grew.refl _) rfl
                refine ⟨fun a_ wx hR hD K hK => ?_, ?_⟩
                · have hG : Grew wr wx := (Grew.drew _).trans hR
                  simp [Deps, Dep, at_, Is] at hD
                  have e_ := pw_cell_below hG D4.out
                  go_simp
                  exact hK _ _ (Grew.refl _) rfl
                refine ⟨fun a_ wx hR hD K hK => ?_, ?_⟩
                · have hG : Grew wr wx := (Grew.drew _).trans hR
                  simp [Deps, Dep, at_, Is] at hD
                  go_simp
                  exact hK _ _ (Grew.refl _) rfl
                refine ⟨fun a_ wx hR hD K hK => ?_, ?_⟩
                · have hG : Grew wr wx := (Grew.drew _).trans hR
                  simp [Deps, Dep, at_, Is] at hD
                  go_simp
                  exact hK _ _ (Grew.refl _) rfl
                refine ⟨fun a_ wx hR hD K hK => ?_, ?_⟩
                · have hG : Grew wr wx := (Grew.drew _).trans hR
                  simp [Deps, Dep, at_, Is] at hD
                  have e_ := pw_cell_below hG D6.out
                  go_simp
                  exact hK _ _ (Grew.refl _) rfl
                refine ⟨fun a_ wx hR hD K hK => ?_, ?_⟩
                · have hG : Grew wr wx := (Grew.drew _).trans hR
                  simp [Deps, Dep, at_, Is] at hD
                  obtain ⟨hd0, hd1⟩ := hD
                  go_simp
                  exact hK _ _ (Grew.refl _) rfl
                refine ⟨fun a_ wx hR hD K hK => ?_, ?_⟩
                · have hG : Grew wr wx := (Grew.drew _).trans hR
                  simp [Deps, Dep, at_, Is] at hD
                  obtain ⟨hd0, hd1⟩ := hD
                  go_simp
                  exact hK _ _ (Grew.refl _) rfl
                refine ⟨fun a_ wx hR hD K hK => ?_, ?_⟩
                · have hG : Grew wr wx := (Grew.drew _).trans hR
                  simp [Deps, Dep, at_, Is] at hD
                  obtain ⟨hd0, hd1⟩ := hD
                  go_simp
                  exact hK _ _ (Grew.refl _) rfl
                refine ⟨fun a_ wx hR hD K hK => ?_, ?_⟩
                · have hG : Grew wr wx := (Grew.drew _).trans hR
                  simp [Deps, Dep, at_, Is] at hD
                  go_simp
                  exact hK _ _ (Grew.refl _) rfl
                refine ⟨fun a_ wx hR hD K hK => ?_, ?_⟩
                · have hG : Grew wr wx := (Grew.drew _).trans hR
                  simp [Deps, Dep, at_, Is] at hD
                  obtain ⟨hd0, hd1⟩ := hD
                  go_simp
                  exact hK _ _ (Grew.refl _) rfl
                refine ⟨fun a_ wx hR hD K hK => ?_, ?_⟩
                · have hG : Grew wr wx := (Grew.drew _).trans hR
                  simp [Deps, Dep, at_, Is] at hD
                  have e_ := pw_cell_below hG CK.out
                  go_simp
                  exact hK _ _ (Grew.refl _) rfl
                refine ⟨fun a_ wx hR hD K hK => ?_, ?_⟩
                · have hG : Grew wr wx := (Grew.drew _).trans hR
                  simp [Deps, Dep, at_, Is] at hD
                  obtain ⟨hd0, hd1⟩ := hD
                  go_simp
                  exact hK _ _ (Grew.refl _) rfl
                refine ⟨fun a_ wx hR hD K hK => ?_, ?_⟩
                · have hG : Grew wr wx := (Grew.drew _).trans hR
                  simp [Deps, Dep, at_, Is] at hD
                  go_simp
                  exact hK _ _ (Grew.refl _) rfl
                refine ⟨fun a_ wx hR hD K hK => ?_, ?_⟩
                · have hG : Grew wr wx := (Grew.drew _).trans hR
                  simp [Deps, Dep, at_, Is] at hD
                  obtain ⟨hd0, hd1⟩ := hD
                  go_simp
                  exact hK _ _ (Grew.refl _) rfl
                refine ⟨fun a_ wx hR hD K hK => ?_, ?_⟩
                · have hG : Grew wr wx := (Grew.drew _).trans hR
                  simp [Deps, Dep, at_, Is] at hD
                  have e_ := pw_cell_below hG CX.out
                  go_simp
                  exact hK _ _ (Grew.refl _) rfl
                trivial
              · show EndHold _ _ _ _ _ _ _
                refine end_all (xs := [_, _, _, _, _, _, _, _, _, _, _, _, _, _, _, _, _, _, _, _, _, _, _, _, _, _, _, _, _, _, _, _, _, _]) ⟨rfl, rfl, rfl, rfl, rfl, rfl, rfl, rfl, rfl, rfl, rfl, rfl, rfl, rfl, rfl, rfl, rfl, rfl, rfl, rfl, rfl, rfl, rfl, rfl, rfl, rfl, rfl, rfl, rfl, rfl, rfl, rfl, rfl, rfl, trivial⟩ ?_
                rintro w6 hR1 -
                refine ⟨?_⟩
                have hG_w6 : Grew wr w6 := (Grew.drew _).trans hR1
                clear hR1
                simp only [Act.put, List.setIfInBounds_toArray, List.set_cons_succ, List.set_cons_zero, dropN, putEach]
                go_wp2_with fail
                clear q0 q1 q2 q3 q4 q5 q6 q7 q8 q9 CK CX
                have r1 := xor_w (rotW_lt 2 ba) (rotW_lt 13 ba)
                have r2 := xor_w (xorW_lt (rotW_lt 2 ba) (rotW_lt 13 ba)) (rotW_lt 22 ba)
                have r3 := and_w ba bb
                have r4 := and_w ba bc
                have r5 := and_w bb bc
                have r6 := xor_w (andW_lt b ba) (andW_lt c' ba)
                have r7 := xor_w (xorW_lt (andW_lt b ba) (andW_lt c' ba)) (andW_lt c' bb)
                obtain ⟨y1, hy1⟩ : ∃ y, y = xorW (xorW (rotW a 2) (rotW a 13)) (rotW a 22) := ⟨_, rfl⟩
                obtain ⟨y2, hy2⟩ : ∃ y, y = xorW (xorW (andW a b) (andW a c')) (andW b c') := ⟨_, rfl⟩
                rw [← hy1] at r2
                rw [← hy2] at r7
                obtain ⟨u, hu⟩ : ∃ u, u = addW (addW (addW z1 z2) k) y := ⟨_, rfl⟩
                rw [← hu]
                have HU := Lib.hid (show u = uW ⟨a, b, c', d, e, f, g, hh⟩ k y from by rw [hu, HZ1.out, HZ2.out]; rfl)
                have HV := Lib.hid (show addW y1 y2 = vW ⟨a, b, c', d, e, f, g, hh⟩ from by rw [hy1, hy2]; rfl)
                have r8 := add_w y1 y2
                have r9 := add_w u (addW y1 y2)
                have r10 := add_w d u
                have E0 := Lib.hid (pw_cell_below hG_w6 D0.out)
                have E1 := Lib.hid (pw_cell_below hG_w6 D1.out)
                have E2 := Lib.hid (pw_cell_below hG_w6 D2.out)
                clear hu hy1 hy2 HZ1 HZ2
                apply region_grew [Is _, Is _, Is _, Is _, Is _, Is _, Is _, Is _, Is _, Is _, Is _, Is _, Is _, Is _, Is _, Is _, Is _, Is _, Is _, Is _, Is _, Is _, Is _, Is _, Is _, Is _, Is _, Is _] [([(12, none)], none), ([(145, some 0)], none), ([(146, some 1)], none), ([(12, none)], none), ([(148, some 3)], none), ([(149, some 4)], none), ([(147, some 2), (150, some 5)], none), ([(12, none)], none), ([(152, some 7)], none), ([(153, some 8)], none), ([(151, some 6), (154, some 9)], none), ([(12, none)], none), ([(156, some 11)], none), ([(12, none)], none), ([(158, some 13)], none), ([(157, some 12), (159, some 14)], none), ([(12, none)], none), ([(161, some 16)], none), ([(12, none)], none), ([(163, some 18)], none), ([(162, some 17), (164, some 19)], none), ([(160, some 15), (165, some 20)], none), ([(12, none)], none), ([(167, some 22)], none), ([(12, none)], none), ([(169, some 24)], none), ([(168, some 23), (170, some 25)], none), ([(166, some 21), (171, some 26)], none)] [(145, 0), (146, 1), (147, 2), (148, 3), (149, 4), (150, 5), (151, 6), (152, 7), (153, 8), (154, 9), (155, 10), (156, 11), (157, 12), (158, 13), (159, 14), (160, 15), (161, 16), (162, 17), (163, 18), (164, 19), (165, 20), (166, 21), (167, 22), (168, 23), (169, 24), (170, 25), (171, 26), (172, 27)] rfl (by kernel_rfl) (by kernel_rfl) (show Stable Grew _ from ⟨Is.stable _, Is.stable _, Is.stable _, Is.stable _, Is.stable _, Is.stable _, Is.stable _, Is.stable _, Is.stable _, Is.stable _, Is.stable _, Is.stable _, Is.stable _, Is.stable _, Is.stable _, Is.stable _, Is.stable _, Is.stable _, Is.stable _, Is.stable _, Is.stable _, Is.stable _, Is.stable _, Is.stable _, Is.stable _, Is.stable _, Is.stable _, Is.stable _, trivial⟩)
                · show OpsHold _ _ _ _ _ _ _ _ _
                  refine ⟨fun a_ wx hR hD K hK => ?_, ?_⟩
                  · have hG : Grew w6 wx := (Grew.drew _).trans hR
                    simp [Deps, Dep, at_, Is] at hD
                    go_simp
                    exact hK _ _ (Grew.refl _) rfl
                  refine ⟨fun a_ wx hR hD K hK => ?_, ?_⟩
                  · have hG : Grew w6 wx := (Grew.drew _).trans hR
                    simp [Deps, Dep, at_, Is] at hD
                    have e_ := pw_cell_below hG E0.out
                    go_simp
                    exact hK _ _ (Grew.refl _) rfl
                  refine ⟨fun a_ wx hR hD K hK => ?_, ?_⟩
                  · have hG : Grew w6 wx := (Grew.drew _).trans hR
                    simp [Deps, Dep, at_, Is] at hD
                    go_simp
                    have hcn := rturn_n a 2 2 rfl ba (by omega) (by omega) wx
                    with_reducible refine hcn.mono ?_
                    clear hcn
                    rintro e wy ⟨v, rfl, hv, hg⟩
                    exact hK _ _ hg hv
                  refine ⟨fun a_ wx hR hD K hK => ?_, ?_⟩
                  · have hG : Grew w6 wx := (Grew.drew _).trans hR
                    simp [Deps, Dep, at_, Is] at hD
                    go_simp
                    exact hK _ _ (Grew.refl _) rfl
                  refine ⟨fun a_ wx hR hD K hK => ?_, ?_⟩
                  · have hG : Grew w6 wx := (Grew.drew _).trans hR
                    simp [Deps, Dep, at_, Is] at hD
                    have e_ := pw_cell_below hG E0.out
                    go_simp
                    exact hK _ _ (Grew.refl _) rfl
                  refine ⟨fun a_ wx hR hD K hK => ?_, ?_⟩
                  · have hG : Grew w6 wx := (Grew.drew _).trans hR
                    simp [Deps, Dep, at_, Is] at hD
                    go_simp
                    have hcn := rturn_n a 13 13 rfl ba (by omega) (by omega) wx
                    with_reducible refine hcn.mono ?_
                    clear hcn
                    rintro e wy ⟨v, rfl, hv, hg⟩
                    exact hK _ _ hg hv
                  refine ⟨fun a_ wx hR hD K hK => ?_, ?_⟩
                  · have hG : Grew w6 wx := (Grew.drew _).trans hR
                    simp [Deps, Dep, at_, Is] at hD
                    obtain ⟨hd0, hd1⟩ := hD
                    go_simp
                    exact hK _ _ (Grew.refl _) rfl
                  refine ⟨fun a_ wx hR hD K hK => ?_, ?_⟩
                  · have hG : Grew w6 wx := (Grew.drew _).trans hR
                    simp [Deps, Dep, at_, Is] at hD
                    go_simp
                    exact hK _ _ (Grew.refl _) rfl
                  refine ⟨fun a_ wx hR hD K hK => ?_, ?_⟩
                  · have hG : Grew w6 wx := (Grew.drew _).trans hR
                    simp [Deps, Dep, at_, Is] at hD
                    have e_ := pw_cell_below hG E0.out
                    go_simp
                    exact hK _ _ (Grew.refl _) rfl
                  refine ⟨fun a_ wx hR hD K hK => ?_, ?_⟩
                  · have hG : Grew w6 wx := (Grew.drew _).trans hR
                    simp [Deps, Dep, at_, Is] at hD
                    go_simp
                    have hcn := rturn_n a 22 22 rfl ba (by omega) (by omega) wx
                    with_reducible refine hcn.mono ?_
                    clear hcn
                    rintro e wy ⟨v, rfl, hv, hg⟩
                    exact hK _ _ hg hv
                  refine ⟨fun a_ wx hR hD K hK => ?_, ?_⟩
                  · have hG : Grew w6 wx := (Grew.drew _).trans hR
                    simp [Deps, Dep, at_, Is] at hD
                    obtain ⟨hd0, hd1⟩ := hD
                    go_simp
                    exact hK _ _ (Grew.refl _) rfl
                  refine ⟨fun a_ wx hR hD K hK => ?_, ?_⟩
                  · have hG : Grew w6 wx := (Grew.drew _).trans hR
                    simp [Deps, Dep, at_, Is] at hD
                    go_simp
                    exact hK _ _ (Grew.refl _) rfl
                  refine ⟨fun a_ wx hR hD K hK => ?_, ?_⟩
                  · have hG : Grew w6 wx := (Grew.drew _).trans hR
                    simp [Deps, Dep, at_, Is] at hD
                    have e_ := pw_cell_below hG E0.out
                    go_simp
                    exact hK _ _ (Grew.refl _) rfl
                  refine ⟨fun a_ wx hR hD K hK => ?_, ?_⟩
                  · have hG : Grew w6 wx := (Grew.drew _).trans hR
                    simp [Deps, Dep, at_, Is] at hD
                    go_simp
                    exact hK _ _ (Grew.refl _) rfl
                  refine ⟨fun a_ wx hR hD K hK => ?_, ?_⟩
                  · have hG : Grew w6 wx := (Grew.drew _).trans hR
                    simp [Deps, Dep, at_, Is] at hD
                    have e_ := pw_cell_below hG E1.out
                    go_simp
                    exact hK _ _ (Grew.refl _) rfl
                  refine ⟨fun a_ wx hR hD K hK => ?_, ?_⟩
                  · have hG : Grew w6 wx := (Grew.drew _).trans hR
                    simp [Deps, Dep, at_, Is] at hD
                    obtain ⟨hd0, hd1⟩ := hD
                    go_simp
                    exact hK _ _ (Grew.refl _) rfl
                  refine ⟨fun a_ wx hR hD K hK => ?_, ?_⟩
                  · have hG : Grew w6 wx := (Grew.drew _).trans hR
                    simp [Deps, Dep, at_, Is] at hD
                    go_simp
                    exact hK _ _ (Grew.refl _) rfl
                  refine ⟨fun a_ wx hR hD K hK => ?_, ?_⟩
                  · have hG : Grew w6 wx := (Grew.drew _).trans hR
                    simp [Deps, Dep, at_, Is] at hD
                    have e_ := pw_cell_below hG E0.out
                    go_simp
                    exact hK _ _ (Grew.refl _) rfl
                  refine ⟨fun a_ wx hR hD K hK => ?_, ?_⟩
                  · have hG : Grew w6 wx := (Grew.drew _).trans hR
                    simp [Deps, Dep, at_, Is] at hD
                    go_simp
                    exact hK _ _ (Grew.refl _) rfl
                  refine ⟨fun a_ wx hR hD K hK => ?_, ?_⟩
                  · have hG : Grew w6 wx := (Grew.drew _).trans hR
                    simp [Deps, Dep, at_, Is] at hD
                    have e_ := pw_cell_below hG E2.out
                    go_simp
                    exact hK _ _ (Grew.refl _) rfl
                  refine ⟨fun a_ wx hR hD K hK => ?_, ?_⟩
                  · have hG : Grew w6 wx := (Grew.drew _).trans hR
                    simp [Deps, Dep, at_, Is] at hD
                    obtain ⟨hd0, hd1⟩ := hD
                    go_simp
                    exact hK _ _ (Grew.refl _) rfl
                  refine ⟨fun a_ wx hR hD K hK => ?_, ?_⟩
                  · have hG : Grew w6 wx := (Grew.drew _).trans hR
                    simp [Deps, Dep, at_, Is] at hD
                    obtain ⟨hd0, hd1⟩ := hD
                    go_simp
                    exact hK _ _ (Grew.refl _) rfl
                  refine ⟨fun a_ wx hR hD K hK => ?_, ?_⟩
                  · have hG : Grew w6 wx := (Grew.drew _).trans hR
                    simp [Deps, Dep, at_, Is] at hD
                    go_simp
                    exact hK _ _ (Grew.refl _) rfl
                  refine ⟨fun a_ wx hR hD K hK => ?_, ?_⟩
                  · have hG : Grew w6 wx := (Grew.drew _).trans hR
                    simp [Deps, Dep, at_, Is] at hD
                    have e_ := pw_cell_below hG E1.out
                    go_simp
                    exact hK _ _ (Grew.refl _) rfl
                  refine ⟨fun a_ wx hR hD K hK => ?_, ?_⟩
                  · have hG : Grew w6 wx := (Grew.drew _).trans hR
                    simp [Deps, Dep, at_, Is] at hD
                    go_simp
                    exact hK _ _ (Grew.refl _) rfl
                  refine ⟨fun a_ wx hR hD K hK => ?_, ?_⟩
                  · have hG : Grew w6 wx := (Grew.drew _).trans hR
                    simp [Deps, Dep, at_, Is] at hD
                    have e_ := pw_cell_below hG E2.out
                    go_simp
                    exact hK _ _ (Grew.refl _) rfl
                  refine ⟨fun a_ wx hR hD K hK => ?_, ?_⟩
                  · have hG : Grew w6 wx := (Grew.drew _).trans hR
                    simp [Deps, Dep, at_, Is] at hD
                    obtain ⟨hd0, hd1⟩ := hD
                    go_simp
                    exact hK _ _ (Grew.refl _) rfl
                  refine ⟨fun a_ wx hR hD K hK => ?_, ?_⟩
                  · have hG : Grew w6 wx := (Grew.drew _).trans hR
                    simp [Deps, Dep, at_, Is] at hD
                    obtain ⟨hd0, hd1⟩ := hD
                    go_simp
                    exact hK _ _ (Grew.refl _) rfl
                  trivial
                · show EndHold _ _ _ _ _ _ _
                  refine end_all (xs := [_, _, _, _, _, _, _, _, _, _, _, _, _, _, _, _, _, _, _, _, _, _, _, _, _, _, _, _]) ⟨rfl, rfl, rfl, rfl, rfl, rfl, rfl, rfl, rfl, rfl, rfl, rfl, rfl, rfl, rfl, rfl, rfl, rfl, rfl, rfl, rfl, rfl, rfl, rfl, rfl, rfl, rfl, rfl, trivial⟩ ?_
                  rintro w7 hR1 -
                  refine ⟨?_⟩
                  have hG_w7 : Grew w6 w7 := (Grew.drew _).trans hR1
                  clear hR1
                  simp only [Act.put, List.setIfInBounds_toArray, List.set_cons_succ, List.set_cons_zero, dropN, putEach]
                  have hGG := hG_w6.trans hG_w7
                  have F0 := pw_cell_below hGG D0.out
                  have F1 := pw_cell_below hGG D1.out
                  have F2 := pw_cell_below hGG D2.out
                  have F3 := pw_cell_below hGG D3.out
                  have F4 := pw_cell_below hGG D4.out
                  have F5 := pw_cell_below hGG D5.out
                  have F6 := pw_cell_below hGG D6.out
                  have HM7 := Lib.hid (HM.out.grew hGG)
                  clear D0 D1 D2 D3 D4 D5 D6 D7 E0 E1 E2 HM
                  go_wp2_with (refine wpList_store_blk (c := wcells [addW u (addW y1 y2), a, b, c', addW d u, e, f, g]) HM7.out.bz (by rfl) 82 (.tmp 12) (.tmp 193) (by rfl) (by rfl) (by rfl) (by rw [wcells_len]; kernel_rfl) (by rw [wcells_len, wcells_len]; rfl) (wcells_one _) ?_)
                  go_roundw
                  case rel =>
                    refine ⟨t + 1, by go_num, by omega, ?_⟩
                    rw [HST.out]
                    have h := HM7.out.setz [addW u (addW y1 y2), a, b, c', addW d u, e, f, g]
                    rw [HV.out, HU.out] at h ⊢
                    exact h
                  case measure => simp [intOf]; omega
            · have d1 : decide ((t : Int) < 64) = false := decide_eq_false (by omega)
              obtain rfl : t = 64 := by omega
              obtain ⟨z, hz⟩ : ∃ z, z = (rn ks x 64 S0).list := ⟨_, rfl⟩
              have hzl : z.length = 8 := by rw [hz]; rfl
              rw [← hz] at hmq
              have HZ := Lib.hid hz
              have HZL := Lib.hid hzl
              clear hz hzl
              have hs0 : sumTo s z 0 = s := sumTo_0 s z HSL.out
              have hm2 : MixZ w ks (sumTo s z 0) x z gz wr := by rw [hs0]; exact hmq
              clear hs0 hmq
              go_wp2_with fail
              try rw [show ((64 : Nat) : Int) = 64 from rfl]
              go_loopw [16] (fun iv wq => ∃ i : Nat, iv = .int .i64 (i : Int) ∧ i ≤ 8 ∧ MixZ w ks (sumTo s z i) x z gz wq) (fun iv _ => 8 - (intOf iv).toNat)
              case atStart => exact ⟨0, rfl, by omega, hm2⟩
              case round =>
                obtain ⟨i, rfl, hi, hmi⟩ := hrel
                clear hm2
                by_cases hi8 : i < 8
                · have d1 : decide ((i : Int) < 8) = true := decide_eq_true (by omega)
                  have i1 : (i : Int) < 8 := by omega
                  have c1 := hmi.m.b0.at_ i
                  rw [cells_get _ _ (by rw [sumTo_len]; omega), sumTo_at _ _ _ hi8] at c1
                  have cz := hmi.bz.at_ i
                  rw [cells_get _ _ (by rw [HZL.out]; omega)] at cz
                  have q1 := add_w (s.getD i 0) (z.getD i 0)
                  obtain ⟨si, hsi⟩ : ∃ si, si = s.getD i 0 := ⟨_, rfl⟩
                  obtain ⟨zi, hzi⟩ : ∃ zi, zi = z.getD i 0 := ⟨_, rfl⟩
                  rw [← hzi] at cz q1
                  rw [← hsi] at c1 q1
                  have HSI := Lib.hid hsi
                  have HZI := Lib.hid hzi
                  have HM := Lib.hid hmi
                  have C1 := Lib.hid c1
                  have CZ := Lib.hid cz
                  clear hsi hzi hmi c1 cz
                  go_wp2_with fail
                  apply region_grew [Is _, Is _, Is _, Is _, Is _, Is _, Is _, Is _] [([(16, none)], none), ([(16, none)], none), ([(4, none), (199, some 1)], none), ([(200, some 2)], none), ([(16, none)], none), ([(12, none), (202, some 4)], none), ([(203, some 5)], none), ([(201, some 3), (204, some 6)], none)] [(198, 0), (199, 1), (200, 2), (201, 3), (202, 4), (203, 5), (204, 6), (205, 7)] rfl (by kernel_rfl) (by kernel_rfl) (show Stable Grew _ from ⟨Is.stable _, Is.stable _, Is.stable _, Is.stable _, Is.stable _, Is.stable _, Is.stable _, Is.stable _, trivial⟩)
                  · show OpsHold _ _ _ _ _ _ _ _ _
                    refine ⟨fun a_ wx hR hD K hK => ?_, ?_⟩
                    · have hG : Grew wr wx := (Grew.drew _).trans hR
                      simp [Deps, Dep, at_, Is] at hD
                      go_simp
                      exact hK _ _ (Grew.refl _) rfl
                    refine ⟨fun a_ wx hR hD K hK => ?_, ?_⟩
                    · have hG : Grew wr wx := (Grew.drew _).trans hR
                      simp [Deps, Dep, at_, Is] at hD
                      go_simp
                      exact hK _ _ (Grew.refl _) rfl
                    refine ⟨fun a_ wx hR hD K hK => ?_, ?_⟩
                    · have hG : Grew wr wx := (Grew.drew _).trans hR
                      simp [Deps, Dep, at_, Is] at hD
                      obtain ⟨hd0, hd1⟩ := hD
                      go_simp
                      exact hK _ _ (Grew.refl _) rfl
                    refine ⟨fun a_ wx hR hD K hK => ?_, ?_⟩
                    · have hG : Grew wr wx := (Grew.drew _).trans hR
                      simp [Deps, Dep, at_, Is] at hD
                      have e_ := pw_cell_below hG C1.out
                      go_simp
                      exact hK _ _ (Grew.refl _) rfl
                    refine ⟨fun a_ wx hR hD K hK => ?_, ?_⟩
                    · have hG : Grew wr wx := (Grew.drew _).trans hR
                      simp [Deps, Dep, at_, Is] at hD
                      go_simp
                      exact hK _ _ (Grew.refl _) rfl
                    refine ⟨fun a_ wx hR hD K hK => ?_, ?_⟩
                    · have hG : Grew wr wx := (Grew.drew _).trans hR
                      simp [Deps, Dep, at_, Is] at hD
                      obtain ⟨hd0, hd1⟩ := hD
                      go_simp
                      exact hK _ _ (Grew.refl _) rfl
                    refine ⟨fun a_ wx hR hD K hK => ?_, ?_⟩
                    · have hG : Grew wr wx := (Grew.drew _).trans hR
                      simp [Deps, Dep, at_, Is] at hD
                      have e_ := pw_cell_below hG CZ.out
                      go_simp
                      exact hK _ _ (Grew.refl _) rfl
                    refine ⟨fun a_ wx hR hD K hK => ?_, ?_⟩
                    · have hG : Grew wr wx := (Grew.drew _).trans hR
                      simp [Deps, Dep, at_, Is] at hD
                      obtain ⟨hd0, hd1⟩ := hD
                      go_simp
                      exact hK _ _ (Grew.refl _) rfl
                    trivial
                  · show EndHold _ _ _ _ _ _ _
                    refine end_all (xs := [_, _, _, _, _, _, _, _]) ⟨rfl, rfl, rfl, rfl, rfl, rfl, rfl, rfl, trivial⟩ ?_
                    rintro w6 hR1 -
                    refine ⟨?_⟩
                    have hG_w6 : Grew wr w6 := (Grew.drew _).trans hR1
                    clear hR1
                    simp only [Act.put, List.setIfInBounds_toArray, List.set_cons_succ, List.set_cons_zero, dropN, putEach]
                    have HM6 := Lib.hid (HM.out.grew hG_w6)
                    have c1 := HM6.out.m.b0.at_ i
                    rw [cells_get _ _ (by rw [sumTo_len]; omega), sumTo_at _ _ _ hi8, ← HSI.out] at c1
                    have c2 := HM6.out.m.b0.fz i
                    go_wp2_with fail
                    go_roundw
                    case rel =>
                      refine ⟨i + 1, by go_num, by omega, ?_⟩
                      have h := HM6.out.set0 i (addW si zi)
                      rw [HSI.out, HZI.out, sumTo_succ _ _ _ hi8] at h
                      rw [HSI.out, HZI.out]
                      exact h
                    case measure => simp [intOf]; omega
                · have d1 : decide ((i : Int) < 8) = false := decide_eq_false (by omega)
                  obtain rfl : i = 8 := by omega
                  rw [show sumTo s z 8 = mixL ks s l from by rw [HZ.out, HX.out, HS.out]; rfl] at hmi
                  have H0 := Lib.hid hmi.m.b0
                  have H1 := Lib.hid hmi.m.b1
                  have HG := Lib.hid hmi.m.gr
                  clear hmi
                  go_wp2_with (first
                    | refine wpList_load_blk H0.out (by rfl) 82 (.tmp 4) (by rfl) (by rfl) _ Try.underlying82 (by rfl) (by rw [wcells_len, mixL_len]; kernel_rfl) ?_
                    | refine wpList_store_blk (c := wcells (mixL ks s l)) H1.out (by rfl) 82 (.tmp 6) (.tmp 207) (by rfl) (by rfl) (by rfl) (by rw [wcells_len, mixL_len]; kernel_rfl) (by rw [wcells_len, wcells_len, mixL_len]; rfl) (wcells_one _) ?_)
                  refine bodyPost_ret (results_blk rfl _ (H1.out.setRow (wcells (mixL ks s l))) _ (by rfl) Try.underlying82 (by rfl) (by rw [wcells_len, mixL_len]; kernel_rfl)) rfl ?_
                  exact ⟨_, rfl, rfl, Grew.setRow HG.out (by omega) _⟩
end Go.Proofs.Ytmifoihfpjomaaa.F

-- ShaL
namespace Go.Proofs.Ytmifoihfpjomaaa.F
open Go Go.RowKit Go.Proofs.YtmifoihfpjomaaaW.PrintWords Go.Proofs.YtmifoihfpjomaaaW.PrintLast Go.Proofs.YtmifoihfpjomaaaW.PrintMore Go.Proofs.YtmifoihfpjomaaaR
set_option linter.unusedSimpArgs false
set_option linter.unusedVariables false
set_option maxRecDepth 100000
set_option maxHeartbeats 2000000 in
theorem words_c (w : World) : Calls Try.prog 65 #[] w (Tells w (Is (.agg (wcells kL).toArray))) := by
  go_enter Try.func65, Try.ntmps65
  go_wp2_with fail
  rw [zeros64]
  have hb0 : Blk ((w.alloc (.cells (wcells (arr64 [])).toArray 80)).alloc (.cells (wcells (arr64 [])).toArray 80)) w.heap.size 80 (wcells (arr64 [])) := (Blk.new w _ _).grew (Grew.alloc _ _)
  have hb1 : Blk ((w.alloc (.cells (wcells (arr64 [])).toArray 80)).alloc (.cells (wcells (arr64 [])).toArray 80)) (w.heap.size + 1) 80 (wcells (arr64 [])) := by simpa using Blk.new (w.alloc (.cells (wcells (arr64 [])).toArray 80)) 80 (wcells (arr64 []))
  have hgw : Grew w ((w.alloc (.cells (wcells (arr64 [])).toArray 80)).alloc (.cells (wcells (arr64 [])).toArray 80)) := (Grew.alloc _ _).trans (Grew.alloc _ _)
  obtain ⟨W, hW⟩ : ∃ W, W = ((w.alloc (.cells (wcells (arr64 [])).toArray 80)).alloc (.cells (wcells (arr64 [])).toArray 80)) := ⟨_, rfl⟩
  rw [← hW] at hb0 hb1 hgw ⊢
  clear hW
  have hk2 : kAt 2 = [] := rfl
  rw [← hk2] at hb1
  go_loopw [2, 3] (fun nv pv wr => ∃ p : Nat, 2 ≤ p ∧ p ≤ 312 ∧ pv = .int .u32 (p : Int) ∧ nv = .int .i64 ((cnt p : Nat) : Int) ∧ Blk wr w.heap.size 80 (wcells (arr64 [])) ∧ Blk wr (w.heap.size + 1) 80 (wcells (arr64 (kAt p))) ∧ Grew w wr) (fun _ pv _ => 312 - (intOf pv).toNat)
  case atStart => exact ⟨2, by omega, by omega, rfl, rfl, hb0, hb1, hgw⟩
  case round =>
    obtain ⟨p, h2, h312, rfl, rfl, hz, hk, hg⟩ := hrel
    have hc := cnt_low p h2 h312
    by_cases hlt : cnt p < 64
    · have d1 : decide (((cnt p : Nat) : Int) < 64) = true := decide_eq_true (by omega)
      have hp3 := hc.2.1 hlt
      have hks := kAt_succ p h2
      have hcs := cnt_succ p h2
      clear hb0 hb1 hgw hk2
      cases hw : wholeN p
      · rw [hw] at hks hcs
        rw [if_neg (by simp), List.append_nil] at hks
        rw [if_neg (by simp), Nat.add_zero] at hcs
        have HK := Lib.hid hk
        have HZ := Lib.hid hz
        have HKS := Lib.hid hks
        have HCS := Lib.hid hcs
        have hwc := rwhole_c p (by omega) wr
        rw [hw] at hwc
        have HW := Lib.hid hwc
        clear hk hz hks hcs hw hc hwc
        go_wp2_with fail
        refine HW.out.mono ?_
        rintro e w1 ⟨_, rfl, rfl, hg1⟩
        go_wp2_with fail
        go_roundw
        case rel => exact ⟨p + 1, by omega, by omega, by go_num, by rw [HCS.out, Nat.add_zero], HZ.out.grew hg1, by rw [HKS.out]; exact HK.out.grew hg1, hg.trans hg1⟩
        case measure => simp [intOf]; omega
      · rw [hw] at hks hcs
        rw [if_pos rfl] at hks hcs
        have HK := Lib.hid hk
        have HZ := Lib.hid hz
        have HKS := Lib.hid hks
        have HCS := Lib.hid hcs
        have hwc := rwhole_c p (by omega) wr
        rw [hw] at hwc
        have HW := Lib.hid hwc
        clear hk hz hks hcs hw hc hwc
        go_wp2_with fail
        refine HW.out.mono ?_
        rintro e w1 ⟨_, rfl, rfl, hg1⟩
        go_wp2_with fail
        have hrc : Calls Try.prog 66 #[.int .u32 p, .bool true] w1 (Tells w1 (Is (.int .u32 ((rootw p : Nat) : Int)))) := rroot_c p (by omega) true w1
        refine hrc.mono ?_
        rintro e w2 ⟨_, rfl, rfl, hg2⟩
        have hk2 := HK.out.grew (hg1.trans hg2)
        have hz2 := HZ.out.grew (hg1.trans hg2)
        have hlen : (arr64 (kAt p)).length = 64 := arr_len _ (by rw [kAt_len]; omega)
        have c1 := hk2.at_ (cnt p)
        rw [cells_get _ _ (by omega)] at c1
        have c2 := hk2.fz (cnt p)
        clear hrc
        go_wp2_with fail
        go_roundw
        case rel =>
          refine ⟨p + 1, by omega, by omega, by go_num, by rw [HCS.out]; simp, hz2.far (by simp) _, ?_, ((Upd.of_grew (S := fun _ => False) (hg.trans (hg1.trans hg2))).set (.inr (by simp)) _).grew (by simp)⟩
          have h5 := hk2.set (cnt p) (.int .u32 ((rootw p : Nat) : Int))
          have h6 := arr_set (kAt p) (by rw [kAt_len]; omega) (rootw p)
          rw [kAt_len] at h6
          rw [h6, ← HKS.out] at h5
          exact h5
        case measure => simp [intOf]; omega
    · have d1 : decide (((cnt p : Nat) : Int) < 64) = false := decide_eq_false (by omega)
      obtain rfl : p = 312 := hc.2.2 (by omega)
      rw [arr_kL] at hk
      have HK := Lib.hid hk
      have HZ := Lib.hid hz
      clear hk hz hc hb0 hb1 hk2 hgw
      go_wp2_with (first
        | refine wpList_load_blk HK.out (by rfl) 80 (.tmp 1) (by rfl) (by rfl) _ Try.underlying80 (by rfl) (by rw [wcells_len, kL_len]; kernel_rfl) ?_
        | refine wpList_store_blk (c := wcells kL) HZ.out (by rfl) 80 (.tmp 0) (.tmp 16) (by rfl) (by rfl) (by rfl) (by rw [wcells_len, kL_len]; kernel_rfl) (by rw [wcells_len, wcells_len, kL_len]; rfl) (wcells_one kL) ?_)
      refine bodyPost_ret (results_blk rfl _ (HZ.out.setRow (wcells kL)) _ (by rfl) Try.underlying80 (by rfl) (by rw [wcells_len, kL_len]; kernel_rfl)) rfl ?_
      exact ⟨_, rfl, rfl, Grew.setRow hg (Nat.le_refl _) _⟩
end Go.Proofs.Ytmifoihfpjomaaa.F

-- ShaR
namespace Go.Proofs.Ytmifoihfpjomaaa.F
open Go Go.RowKit Go.Proofs.YtmifoihfpjomaaaW.PrintWords Go.Proofs.YtmifoihfpjomaaaW.PrintLast Go.Proofs.YtmifoihfpjomaaaW.PrintMore Go.Proofs.YtmifoihfpjomaaaR
attribute [local go_sem] max2_int min2_int max_two min_two
set_option linter.unusedSimpArgs false
set_option linter.unusedVariables false
set_option maxRecDepth 100000
theorem str_extract (l : List Int) (a b : Nat) : (strOfNums l).extract a b = strOfNums ((l.drop a).take (b - a)) := by
  show (ByteArray.mk (l.map fun n => UInt8.ofNat n.toNat).toArray).extract a b = ByteArray.mk (((l.drop a).take (b - a)).map fun n => UInt8.ofNat n.toNat).toArray
  rw [ByteArray.extract_mk, List.map_take, List.map_drop]
/-- bytes that may be read -/
def RowV (n : Nat) (l : List Int) : World → Value → Prop := fun w v => ∃ A c, v = .slice A n c ∧ Kd.C (Kd.int .u8) w A n l
theorem RowV.stable (n : Nat) (l : List Int) : ∀ w w' v, Grew w w' → RowV n l w v → RowV n l w' v := fun _ _ _ hg ⟨A, c, h1, h2⟩ => ⟨A, c, h1, Kd.C_below h2 hg⟩
set_option maxHeartbeats 4000000 in
theorem rsum_c (w : World) (l : List Int) (hl : l.length ≤ 1000000000) (hb : ∀ y ∈ l, 0 ≤ y ∧ y < 256) :
    Calls Try.prog 60 #[.string (strOfNums l)] w (Tells w (Is (.string (strOfNums (shaL l))))) := by
  have hsz := str_size l
  obtain ⟨B, hB⟩ : ∃ B, B = strOfNums l := ⟨_, rfl⟩
  rw [← hB] at hsz ⊢
  obtain ⟨n, hn⟩ : ∃ n, n = l.length := ⟨_, rfl⟩
  rw [← hn] at hsz hl
  have HB := Lib.hid hB
  have HN := Lib.hid hn
  have HL := Lib.hid hl
  have HBB := Lib.hid hb
  have HSZ := Lib.hid hsz
  clear hB hn hl hb hsz
  go_enter Try.func60, Try.ntmps60
  go_wp2_with fail
  refine (words_c w).mono ?_
  rintro e w1 ⟨_, rfl, rfl, hg1⟩
  go_wp2_with (refine wpList_store_blk (c := wcells kL) (Blk.new _ 80 (wcells (arr64 []))) (by rfl) 80 (.tmp 3) (.tmp 10) (by rfl) (by rfl) (by rfl) (by rw [wcells_len, kL_len]; kernel_rfl) (by rw [wcells_len, wcells_len, kL_len]; rfl) (wcells_one _) ?_)
  simp only [zeros64, zeros8]
  obtain ⟨gk, hgk⟩ : ∃ gk, gk = w1.heap.size := ⟨_, rfl⟩
  have hk0 : Blk (((w1.alloc (.cells (wcells (arr64 [])).toArray 80)).setRow w1.heap.size (wcells kL).toArray).alloc (.cells (wcells (List.replicate 8 0)).toArray 82)) w1.heap.size 80 (wcells kL) := ((Blk.new w1 _ _).setRow _).grew (Grew.alloc _ _)
  have hs0 : Blk (((w1.alloc (.cells (wcells (arr64 [])).toArray 80)).setRow w1.heap.size (wcells kL).toArray).alloc (.cells (wcells (List.replicate 8 0)).toArray 82)) (w1.heap.size + 1) 82 (wcells (s0To 0)) := by
    have h := Blk.new ((w1.alloc (.cells (wcells (arr64 [])).toArray 80)).setRow w1.heap.size (wcells kL).toArray) 82 (wcells (List.replicate 8 0))
    rw [setRow_size] at h
    rw [s0To_0]
    simpa using h
  have hg0 : Grew w1 (((w1.alloc (.cells (wcells (arr64 [])).toArray 80)).setRow w1.heap.size (wcells kL).toArray).alloc (.cells (wcells (List.replicate 8 0)).toArray 82)) := (Grew.setRow (Grew.alloc _ _) (Nat.le_refl _) _).trans (Grew.alloc _ _)
  have hgw0 := Grew.trans hg1 hg0
  have hgl : w.heap.size ≤ gk := by rw [hgk]; exact hg1.size
  rw [← hgk] at hk0 hs0 hgw0 ⊢
  obtain ⟨W5, hW5⟩ : ∃ W5, W5 = (((w1.alloc (.cells (wcells (arr64 [])).toArray 80)).setRow gk (wcells kL).toArray).alloc (.cells (wcells (List.replicate 8 0)).toArray 82)) := ⟨_, rfl⟩
  rw [← hW5] at hk0 hs0 hgw0 ⊢
  clear hgk hW5 hg0 hg1
  go_loopw [5] (fun iv wq => ∃ i : Nat, iv = .int .i64 (i : Int) ∧ i ≤ 8 ∧ Blk wq gk 80 (wcells kL) ∧ Blk wq (gk + 1) 82 (wcells (s0To i)) ∧ Grew w wq) (fun iv _ => 8 - (intOf iv).toNat)
  case atStart => exact ⟨0, rfl, by omega, hk0, hs0, hgw0⟩
  case round =>
    obtain ⟨i, rfl, hi, hk, hs, hg⟩ := hrel
    clear hk0 hs0 hgw0
    by_cases hi8 : i < 8
    · have d1 : decide ((i : Int) < 8) = true := decide_eq_true (by omega)
      have i1 : (i : Int) < 8 := by omega
      obtain ⟨p, hp⟩ : ∃ p, p = primesL.getD i 0 := ⟨_, rfl⟩
      have hpl : p < 4294967296 := by rw [hp]; exact primesL_lt i
      have hpc : ∀ w, Calls Try.prog 67 #[.int .i64 (i : Int)] w (Tells w (Is (.int .u32 (p : Int)))) := fun w => by
        have h := rprime_c i w
        rw [primeI_nat i hi8, ← hp] at h
        exact h
      have hrc : ∀ w, Calls Try.prog 66 #[.int .u32 (p : Int), .bool false] w (Tells w (Is (.int .u32 ((s0w i : Nat) : Int)))) := fun w => by
        have h := rroot_c p hpl false w
        unfold s0w
        rw [← hp]
        exact h
      obtain ⟨r, hr⟩ : ∃ r, r = s0w i := ⟨_, rfl⟩
      rw [← hr] at hrc
      have HP := Lib.hid hpc
      have HQ := Lib.hid hrc
      have HK := Lib.hid hk
      have HS := Lib.hid hs
      have HRR := Lib.hid hr
      clear hpc hrc hk hs hp hr
      go_wp2_with fail
      refine (HP.out wr).mono ?_
      rintro e w5 ⟨_, rfl, rfl, hg5⟩
      go_wp2_with fail
      refine (HQ.out w5).mono ?_
      rintro e w6 ⟨_, rfl, rfl, hg6⟩
      have HS6 := Lib.hid ((HS.out.grew hg5).grew hg6)
      have HK6 := Lib.hid ((HK.out.grew hg5).grew hg6)
      have hgg := Grew.trans (Grew.trans hg hg5) hg6
      have c1 := HS6.out.at_ i
      rw [cells_get _ _ (by rw [s0To_len]; omega)] at c1
      have c2 := HS6.out.fz i
      go_wp2_with fail
      go_roundw
      case rel =>
        refine ⟨i + 1, by go_num, by omega, HK6.out.far (by simp) _, ?_, Grew.setCell_new hgg (by simp; omega) _⟩
        have h := HS6.out.set i (.int .u32 (r : Int))
        rw [wcells_set, HRR.out, s0To_succ i hi8] at h
        rw [HRR.out]
        exact h
      case measure => simp [intOf]; omega
    · have d1 : decide ((i : Int) < 8) = false := decide_eq_false (by omega)
      obtain rfl : i = 8 := by omega
      rw [s0To_8] at hs
      have hsz := HSZ.out
      have HK := Lib.hid hk
      have HS := Lib.hid hs
      have HG := Lib.hid hg
      have hrp := rpad_c n wr
      obtain ⟨P, hP⟩ : ∃ P, P = strOfNums (padL n) := ⟨_, rfl⟩
      rw [← hP] at hrp
      obtain ⟨T, hT⟩ : ∃ T, T = l ++ padL n := ⟨_, rfl⟩
      obtain ⟨TB, hTB⟩ : ∃ TB, TB = strOfNums T := ⟨_, rfl⟩
      have hz : ¬ (9223372036854775807 < B.size + P.size) := by rw [HSZ.out, hP, str_size, padL_len]; have := HL.out; unfold zN; omega
      have hap : B ++ P = TB := by rw [HB.out, hP, hTB, hT, str_append]
      obtain ⟨m, hm⟩ : ∃ m, m = T.length := ⟨_, rfl⟩
      have hts : TB.size = m := by rw [hTB, str_size, hm]
      have hTf : T = fullL l := by rw [hT, HN.out]; rfl
      have hmb : m % 64 = 0 := by rw [hm, hTf]; exact fullL_len l
      have hml : m ≤ 1000000200 := by rw [hm, hT, List.length_append, padL_len]; have := HL.out; have := HN.out; unfold zN; omega
      have hTb : ∀ y ∈ T, 0 ≤ y ∧ y < 256 := by
        intro y hy
        rw [hT] at hy
        rcases List.mem_append.1 hy with h | h
        · exact HBB.out y h
        · exact padL_bytes n y h
      have HRP := Lib.hid hrp
      have HT := Lib.hid hT
      have HM := Lib.hid hm
      have HTF := Lib.hid hTf
      have HTS := Lib.hid hts
      have HTB := Lib.hid hTb
      have HTBe := Lib.hid hTB
      clear hk hs hg hP hT hTB hm hTf hts hTb hrp
      go_wp2_with fail
      refine HRP.out.mono ?_
      rintro e w2 ⟨_, rfl, rfl, hg2⟩
      have hk2 := HK.out.grew hg2
      have hs2 := HS.out.grew hg2
      have hgw2 := Grew.trans HG.out hg2
      clear hsz HK HS HG
      go_wp2_with fail
      try rw [show ((8 : Nat) : Int) = 8 from rfl]
      go_loopw [7] (fun iv wq => ∃ j ij : Nat, iv = .int .i64 (ij : Int) ∧ ij = 64 * j ∧ ij ≤ m ∧ Blk wq gk 80 (wcells kL) ∧ Blk wq (gk + 1) 82 (wcells (after kL s0L T j)) ∧ Grew w wq) (fun iv _ => m - (intOf iv).toNat)
      case atStart => exact ⟨0, 0, rfl, rfl, by omega, hk2, hs2, hgw2⟩
      case round =>
        obtain ⟨j, ij, rfl, hij, him, hk, hs, hg⟩ := hrel
        clear hk2 hs2 hgw2
        have hts := HTS.out
        by_cases hlt : ij < m
        · have d1 : decide ((ij : Int) < (m : Int)) = true := decide_eq_true (by omega)
          obtain ⟨ij2, hij2⟩ : ∃ q, q = ij + 64 := ⟨_, rfl⟩
          have e1 : IntKind.i64.wrap ((ij : Int) + 64) = (ij2 : Int) := by rw [IntWalk.i64_in _ (by omega)]; omega
          have hle2 : ij2 ≤ m := by omega
          have hbk : (T.drop ij).take (ij2 - ij) = blkL T j := by rw [hij2, Nat.add_sub_cancel_left, hij]; rfl
          have hb64 : (blkL T j).length = 64 := by
            unfold blkL
            rw [List.length_take, List.length_drop, ← HM.out]; omega
          have hsl7 : ∀ w', Sem.run Try.prog (Instr.slice 9 (.string TB) (some (.int .i64 (ij : Int))) (some (.int .i64 (ij2 : Int))) none) w' = .ok (.string (strOfNums (blkL T j))) w' := fun w' => by
            rw [run_slice_string w' _ TB .i64 .i64 _ _ (by rfl) (by omega) (by omega) (by omega), HTBe.out, str_extract, Int.toNat_natCast, Int.toNat_natCast, hbk]
          obtain ⟨S, hS⟩ : ∃ S, S = after kL s0L T j := ⟨_, rfl⟩
          have hsl : S.length = 8 := by rw [hS]; exact after_len s0L_len _
          have hsw : words S := by rw [hS]; exact after_words s0L_words _
          have hnext : after kL s0L T (j + 1) = mixL kL S (blkL T j) := by rw [hS]; rfl
          have hbb : ∀ y ∈ blkL T j, 0 ≤ y ∧ y < 256 := fun y hy => HTB.out y (List.mem_of_mem_drop (List.mem_of_mem_take hy))
          rw [← hS] at hs
          have HK := Lib.hid hk
          have HS := Lib.hid hs
          have HG := Lib.hid hg
          have HSl := Lib.hid hsl
          have HSw := Lib.hid hsw
          have HNext := Lib.hid hnext
          have HBl := Lib.hid hbb
          have HB64 := Lib.hid hb64
          have HIJ := Lib.hid hij
          have HIJ2 := Lib.hid hij2
          clear hk hs hg hsl hsw hnext hbb hb64 hij hij2 hbk hS
          go_wp2_with fail
          clear hts
          apply region_grew [Is _, Is _, Is _, Is _, Is _, Is _, Is _] [([(3, none)], none), ([(4, none)], none), ([(6, none)], none), ([(7, none)], none), ([(7, none)], none), ([(35, some 4)], none), ([(33, some 2), (34, some 3), (36, some 5)], none)] [(31, 0), (32, 1), (33, 2), (34, 3), (35, 4), (36, 5), (37, 6)] rfl (by kernel_rfl) (by kernel_rfl) (show Stable Grew _ from ⟨Is.stable _, Is.stable _, Is.stable _, Is.stable _, Is.stable _, Is.stable _, Is.stable _, trivial⟩)
          · show OpsHold _ _ _ _ _ _ _ _ _
            refine ⟨fun a_ wx hR hD K hK => ?_, ?_⟩
            · have hG : Grew wr wx := (Grew.drew _).trans hR
              simp [Deps, Dep, at_, Is] at hD
              exact wp_load_mid 80 (.tmp 3) rfl gk 0 (eval_tmp hD) (wcells kL) _ (Blk.range0 (HK.out.grew hG)) Try.underlying80 (by rfl) (by rw [wcells_len, kL_len]; kernel_rfl) (hK _ _ (Grew.refl _) rfl)
            refine ⟨fun a_ wx hR hD K hK => ?_, ?_⟩
            · have hG : Grew wr wx := (Grew.drew _).trans hR
              simp [Deps, Dep, at_, Is] at hD
              exact wp_load_mid 82 (.tmp 4) rfl (gk + 1) 0 (eval_tmp hD) (wcells S) _ (Blk.range0 (HS.out.grew hG)) Try.underlying82 (by rfl) (by rw [wcells_len, HSl.out]; kernel_rfl) (hK _ _ (Grew.refl _) rfl)
            refine ⟨fun a_ wx hR hD K hK => ?_, ?_⟩
            · have hG : Grew wr wx := (Grew.drew _).trans hR
              simp [Deps, Dep, at_, Is] at hD
              go_simp
              exact hK _ _ (Grew.refl _) rfl
            refine ⟨fun a_ wx hR hD K hK => ?_, ?_⟩
            · have hG : Grew wr wx := (Grew.drew _).trans hR
              simp [Deps, Dep, at_, Is] at hD
              go_simp
              exact hK _ _ (Grew.refl _) rfl
            refine ⟨fun a_ wx hR hD K hK => ?_, ?_⟩
            · have hG : Grew wr wx := (Grew.drew _).trans hR
              simp [Deps, Dep, at_, Is] at hD
              go_simp
              exact hK _ _ (Grew.refl _) rfl
            refine ⟨fun a_ wx hR hD K hK => ?_, ?_⟩
            · have hG : Grew wr wx := (Grew.drew _).trans hR
              simp [Deps, Dep, at_, Is] at hD
              go_simp
              exact hK _ _ (Grew.refl _) rfl
            refine ⟨fun a_ wx hR hD K hK => ?_, ?_⟩
            · have hG : Grew wr wx := (Grew.drew _).trans hR
              simp [Deps, Dep, at_, Is] at hD
              obtain ⟨hd0, hd1, hd2⟩ := hD
              go_simp
              exact hK _ _ (Grew.refl _) rfl
            trivial
          · show EndHold _ _ _ _ _ _ _
            refine end_all (xs := [_, _, _, _, _, _, _]) ⟨rfl, rfl, rfl, rfl, rfl, rfl, rfl, trivial⟩ ?_
            rintro w5 hR1 -
            refine ⟨?_⟩
            have hG_w5 : Grew wr w5 := (Grew.drew _).trans hR1
            clear hR1
            simp only [Act.put, List.setIfInBounds_toArray, List.set_cons_succ, List.set_cons_zero, dropN, putEach]
            go_wp2_with fail
            refine (rmix_c w5 kL S (blkL T j) kL_len kL_words HSl.out HSw.out HB64.out HBl.out).mono ?_
            rintro e w6 ⟨_, rfl, rfl, hg6⟩
            have hgg := Grew.trans (Grew.trans HG.out hG_w5) hg6
            have HS5 := Lib.hid ((HS.out.grew hG_w5).grew hg6)
            have HK5 := Lib.hid ((HK.out.grew hG_w5).grew hg6)
            go_wp2_with (refine wpList_store_blk (c := wcells (mixL kL S (blkL T j))) HS5.out (by rfl) 82 (.tmp 4) (.tmp 38) (by rfl) (by rfl) (by rfl) (by rw [wcells_len, mixL_len]; kernel_rfl) (by rw [wcells_len, wcells_len, mixL_len, HSl.out]) (wcells_one _) ?_)
            go_roundw
            case rel =>
              refine ⟨j + 1, ij2, by go_num, by rw [HIJ2.out, HIJ.out]; omega, hle2, HK5.out.farRow (by omega) _, ?_, Grew.setRow hgg (by omega) _⟩
              rw [HNext.out]
              exact HS5.out.setRow _
            case measure => have := HIJ2.out; simp [intOf]; omega
        · have d1 : decide ((ij : Int) < (m : Int)) = false := decide_eq_false (by omega)
          obtain ⟨SF, hSF⟩ : ∃ SF, SF = after kL s0L T j := ⟨_, rfl⟩
          have hsl : SF.length = 8 := by rw [hSF]; exact after_len s0L_len _
          have HSw := Lib.hid (show words SF from by rw [hSF]; exact after_words s0L_words _)
          have hout : shaL l = outL SF := by
            unfold shaL
            rw [hSF, ← HTF.out, ← HM.out]
            congr 2
            omega
          rw [← hSF] at hs
          have HSl := Lib.hid hsl
          have HOut := Lib.hid hout
          have he0 : (⟨#[]⟩ : ByteArray) = strOfNums (outL (SF.take 0)) := rfl
          clear hSF hsl hout hij hk
          go_wp2_with fail
          clear hts
          go_loopw [8, 9] (fun v8 iv wq => ∃ (i : Nat) (O : ByteArray), v8 = .string O ∧ O = strOfNums (outL (SF.take i)) ∧ iv = .int .i64 (i : Int) ∧ i ≤ 8 ∧ Blk wq (gk + 1) 82 (wcells SF) ∧ Grew w wq) (fun _ iv _ => 8 - (intOf iv).toNat)
          case atStart => exact ⟨0, _, rfl, he0, rfl, by omega, hs, hg⟩
          case round =>
            obtain ⟨i, O, rfl, hO, rfl, hi, hs2, hg2⟩ := hrel
            clear hs hg he0
            by_cases hi8 : i < 8
            · have d1 : decide ((i : Int) < 8) = true := decide_eq_true (by omega)
              have i1 : (i : Int) < 8 := by omega
              have c1 := hs2.at_ i
              rw [cells_get SF i (by rw [HSl.out]; omega)] at c1
              have hsucc : outL (SF.take (i + 1)) = outL (SF.take i) ++ outW (SF.getD i 0) := outL_succ SF i (by rw [HSl.out]; omega)
              obtain ⟨y, hy⟩ : ∃ y, y = SF.getD i 0 := ⟨_, rfl⟩
              have hyl : y < 4294967296 := by rw [hy]; exact words_get (HSw.out) _
              rw [← hy] at c1 hsucc
              obtain ⟨b0, hb0⟩ : ∃ b, b = y / 16777216 % 256 := ⟨_, rfl⟩
              obtain ⟨b1, hb1⟩ : ∃ b, b = y / 65536 % 256 := ⟨_, rfl⟩
              obtain ⟨b2, hb2⟩ : ∃ b, b = y / 256 % 256 := ⟨_, rfl⟩
              obtain ⟨b3, hb3⟩ : ∃ b, b = y % 256 := ⟨_, rfl⟩
              obtain ⟨q0, hq0⟩ : ∃ q, q = y / 16777216 := ⟨_, rfl⟩
              obtain ⟨q1, hq1⟩ : ∃ q, q = y / 65536 := ⟨_, rfl⟩
              obtain ⟨q2, hq2⟩ : ∃ q, q = y / 256 := ⟨_, rfl⟩
              have k0 : IntKind.u32.wrap ((y : Int) / 16777216) = (q0 : Int) := by rw [IntWalk.u32_in _ (by omega)]; omega
              have k1 : IntKind.u32.wrap ((y : Int) / 65536) = (q1 : Int) := by rw [IntWalk.u32_in _ (by omega)]; omega
              have k2 : IntKind.u32.wrap ((y : Int) / 256) = (q2 : Int) := by rw [IntWalk.u32_in _ (by omega)]; omega
              have t1 : (q1 : Int).tmod 256 = (b1 : Int) := by rw [show (256 : Int) = ((256 : Nat) : Int) from rfl, tmod_nat, hb1, hq1]
              have t2 : (q2 : Int).tmod 256 = (b2 : Int) := by rw [show (256 : Int) = ((256 : Nat) : Int) from rfl, tmod_nat, hb2, hq2]
              have t3 : (y : Int).tmod 256 = (b3 : Int) := by rw [show (256 : Int) = ((256 : Nat) : Int) from rfl, tmod_nat, hb3]
              have g0 : IntKind.u8.wrap (q0 : Int) = (b0 : Int) := by rw [IntKind.wrap_u8]; omega
              have g1 : IntKind.u8.wrap (b1 : Int) = (b1 : Int) := by rw [IntKind.wrap_u8]; omega
              have g2 : IntKind.u8.wrap (b2 : Int) = (b2 : Int) := by rw [IntKind.wrap_u8]; omega
              have g3 : IntKind.u8.wrap (b3 : Int) = (b3 : Int) := by rw [IntKind.wrap_u8]; omega
              have hw4 : outW y = [(b0 : Int), (b1 : Int), (b2 : Int), (b3 : Int)] := by rw [hb0, hb1, hb2, hb3]; rfl
              rw [hw4] at hsucc
              obtain ⟨Q, hQ⟩ : ∃ Q, Q = strOfNums [(b0 : Int), (b1 : Int), (b2 : Int), (b3 : Int)] := ⟨_, rfl⟩
              obtain ⟨O2, hO2⟩ : ∃ O2, O2 = strOfNums (outL (SF.take (i + 1))) := ⟨_, rfl⟩
              have hadd : O ++ Q = O2 := by rw [hO, hQ, hO2, hsucc, str_append]
              have hz : ¬ (9223372036854775807 < O.size + Q.size) := by
                rw [hO, hQ, str_size, str_size, outL_len, List.length_take]; simp; omega
              have hst : ∀ w' A' c', Kd.C (Kd.int .u8) w' A' 4 [(b0 : Int), (b1 : Int), (b2 : Int), (b3 : Int)] → (convert 45 9 (.slice A' 4 c')).run Try.prog w' = .ok (.string Q) w' := fun w' A' c' h => by
                rw [hQ]; exact Kd.C_string (P := Try.prog) Try.underlying45 Try.underlying5 Try.underlying9 h
              have C1 := Lib.hid c1
              have HO2 := Lib.hid hO2
              have HST := Lib.hid hst
              have HS2 := Lib.hid hs2
              have HG2 := Lib.hid hg2
              clear c1 hO2 hst hs2 hg2 hsucc hw4 hb0 hb1 hb2 hb3 hy hO hQ hq0 hq1 hq2
              go_wp2_with fail
              apply region_grew [Is _, Is _, Is _, Is _, Is _, Is _, Is _, Is _, Is _, Is _, Is _, Is _, Is _, Is _, Is _, Is _, Is _, Is _, Is _, Is _, Is _, Is _, Is _, RowV 4 [(b0 : Int), (b1 : Int), (b2 : Int), (b3 : Int)], Is _] [([(8, none)], none), ([(9, none)], none), ([(4, none), (44, some 1)], none), ([(45, some 2)], none), ([(46, some 3)], none), ([(47, some 4)], none), ([(9, none)], none), ([(4, none), (49, some 6)], none), ([(50, some 7)], none), ([(51, some 8)], none), ([(52, some 9)], none), ([(53, some 10)], none), ([(9, none)], none), ([(4, none), (55, some 12)], none), ([(56, some 13)], none), ([(57, some 14)], none), ([(58, some 15)], none), ([(59, some 16)], none), ([(9, none)], none), ([(4, none), (61, some 18)], none), ([(62, some 19)], none), ([(63, some 20)], none), ([(64, some 21)], none), ([(48, some 5), (54, some 11), (60, some 17), (65, some 22)], none), ([(66, some 23)], none)] [(66, 23), (43, 0), (44, 1), (45, 2), (46, 3), (47, 4), (48, 5), (49, 6), (50, 7), (51, 8), (52, 9), (53, 10), (54, 11), (55, 12), (56, 13), (57, 14), (58, 15), (59, 16), (60, 17), (61, 18), (62, 19), (63, 20), (64, 21), (65, 22), (67, 24)] rfl (by kernel_rfl) (by kernel_rfl) (show Stable Grew _ from ⟨Is.stable _, Is.stable _, Is.stable _, Is.stable _, Is.stable _, Is.stable _, Is.stable _, Is.stable _, Is.stable _, Is.stable _, Is.stable _, Is.stable _, Is.stable _, Is.stable _, Is.stable _, Is.stable _, Is.stable _, Is.stable _, Is.stable _, Is.stable _, Is.stable _, Is.stable _, Is.stable _, RowV.stable _ _, Is.stable _, trivial⟩)
              · show OpsHold _ _ _ _ _ _ _ _ _
                refine ⟨fun a_ wx hR hD K hK => ?_, ?_⟩
                · have hG : Grew wr wx := (Grew.drew _).trans hR
                  simp [Deps, Dep, at_, Is] at hD
                  go_simp
                  exact hK _ _ (Grew.refl _) rfl
                refine ⟨fun a_ wx hR hD K hK => ?_, ?_⟩
                · have hG : Grew wr wx := (Grew.drew _).trans hR
                  simp [Deps, Dep, at_, Is] at hD
                  go_simp
                  exact hK _ _ (Grew.refl _) rfl
                refine ⟨fun a_ wx hR hD K hK => ?_, ?_⟩
                · have hG : Grew wr wx := (Grew.drew _).trans hR
                  simp [Deps, Dep, at_, Is] at hD
                  obtain ⟨hd0, hd1⟩ := hD
                  go_simp
                  exact hK _ _ (Grew.refl _) rfl
                refine ⟨fun a_ wx hR hD K hK => ?_, ?_⟩
                · have hG : Grew wr wx := (Grew.drew _).trans hR
                  simp [Deps, Dep, at_, Is] at hD
                  have e_ := pw_cell_below hG C1.out
                  go_simp
                  exact hK _ _ (Grew.refl _) rfl
                refine ⟨fun a_ wx hR hD K hK => ?_, ?_⟩
                · have hG : Grew wr wx := (Grew.drew _).trans hR
                  simp [Deps, Dep, at_, Is] at hD
                  go_simp
                  exact hK _ _ (Grew.refl _) rfl
                refine ⟨fun a_ wx hR hD K hK => ?_, ?_⟩
                · have hG : Grew wr wx := (Grew.drew _).trans hR
                  simp [Deps, Dep, at_, Is] at hD
                  go_simp
                  exact hK _ _ (Grew.refl _) rfl
                refine ⟨fun a_ wx hR hD K hK => ?_, ?_⟩
                · have hG : Grew wr wx := (Grew.drew _).trans hR
                  simp [Deps, Dep, at_, Is] at hD
                  go_simp
                  exact hK _ _ (Grew.refl _) rfl
                refine ⟨fun a_ wx hR hD K hK => ?_, ?_⟩
                · have hG : Grew wr wx := (Grew.drew _).trans hR
                  simp [Deps, Dep, at_, Is] at hD
                  obtain ⟨hd0, hd1⟩ := hD
                  go_simp
                  exact hK _ _ (Grew.refl _) rfl
                refine ⟨fun a_ wx hR hD K hK => ?_, ?_⟩
                · have hG : Grew wr wx := (Grew.drew _).trans hR
                  simp [Deps, Dep, at_, Is] at hD
                  have e_ := pw_cell_below hG C1.out
                  go_simp
                  exact hK _ _ (Grew.refl _) rfl
                refine ⟨fun a_ wx hR hD K hK => ?_, ?_⟩
                · have hG : Grew wr wx := (Grew.drew _).trans hR
                  simp [Deps, Dep, at_, Is] at hD
                  go_simp
                  exact hK _ _ (Grew.refl _) rfl
                refine ⟨fun a_ wx hR hD K hK => ?_, ?_⟩
                · have hG : Grew wr wx := (Grew.drew _).trans hR
                  simp [Deps, Dep, at_, Is] at hD
                  go_simp
                  exact hK _ _ (Grew.refl _) rfl
                refine ⟨fun a_ wx hR hD K hK => ?_, ?_⟩
                · have hG : Grew wr wx := (Grew.drew _).trans hR
                  simp [Deps, Dep, at_, Is] at hD
                  go_simp
                  exact hK _ _ (Grew.refl _) rfl
                refine ⟨fun a_ wx hR hD K hK => ?_, ?_⟩
                · have hG : Grew wr wx := (Grew.drew _).trans hR
                  simp [Deps, Dep, at_, Is] at hD
                  go_simp
                  exact hK _ _ (Grew.refl _) rfl
                refine ⟨fun a_ wx hR hD K hK => ?_, ?_⟩
                · have hG : Grew wr wx := (Grew.drew _).trans hR
                  simp [Deps, Dep, at_, Is] at hD
                  obtain ⟨hd0, hd1⟩ := hD
                  go_simp
                  exact hK _ _ (Grew.refl _) rfl
                refine ⟨fun a_ wx hR hD K hK => ?_, ?_⟩
                · have hG : Grew wr wx := (Grew.drew _).trans hR
                  simp [Deps, Dep, at_, Is] at hD
                  have e_ := pw_cell_below hG C1.out
                  go_simp
                  exact hK _ _ (Grew.refl _) rfl
                refine ⟨fun a_ wx hR hD K hK => ?_, ?_⟩
                · have hG : Grew wr wx := (Grew.drew _).trans hR
                  simp [Deps, Dep, at_, Is] at hD
                  go_simp
                  exact hK _ _ (Grew.refl _) rfl
                refine ⟨fun a_ wx hR hD K hK => ?_, ?_⟩
                · have hG : Grew wr wx := (Grew.drew _).trans hR
                  simp [Deps, Dep, at_, Is] at hD
                  go_simp
                  exact hK _ _ (Grew.refl _) rfl
                refine ⟨fun a_ wx hR hD K hK => ?_, ?_⟩
                · have hG : Grew wr wx := (Grew.drew _).trans hR
                  simp [Deps, Dep, at_, Is] at hD
                  go_simp
                  exact hK _ _ (Grew.refl _) rfl
                refine ⟨fun a_ wx hR hD K hK => ?_, ?_⟩
                · have hG : Grew wr wx := (Grew.drew _).trans hR
                  simp [Deps, Dep, at_, Is] at hD
                  go_simp
                  exact hK _ _ (Grew.refl _) rfl
                refine ⟨fun a_ wx hR hD K hK => ?_, ?_⟩
                · have hG : Grew wr wx := (Grew.drew _).trans hR
                  simp [Deps, Dep, at_, Is] at hD
                  obtain ⟨hd0, hd1⟩ := hD
                  go_simp
                  exact hK _ _ (Grew.refl _) rfl
                refine ⟨fun a_ wx hR hD K hK => ?_, ?_⟩
                · have hG : Grew wr wx := (Grew.drew _).trans hR
                  simp [Deps, Dep, at_, Is] at hD
                  have e_ := pw_cell_below hG C1.out
                  go_simp
                  exact hK _ _ (Grew.refl _) rfl
                refine ⟨fun a_ wx hR hD K hK => ?_, ?_⟩
                · have hG : Grew wr wx := (Grew.drew _).trans hR
                  simp [Deps, Dep, at_, Is] at hD
                  go_simp
                  exact hK _ _ (Grew.refl _) rfl
                refine ⟨fun a_ wx hR hD K hK => ?_, ?_⟩
                · have hG : Grew wr wx := (Grew.drew _).trans hR
                  simp [Deps, Dep, at_, Is] at hD
                  go_simp
                  exact hK _ _ (Grew.refl _) rfl
                refine ⟨fun a_ wx hR hD K hK => ?_, ?_⟩
                · have hG : Grew wr wx := (Grew.drew _).trans hR
                  simp [Deps, Dep, at_, Is] at hD
                  obtain ⟨hd0, hd1, hd2, hd3⟩ := hD
                  go_simp
                  exact hK _ _ (Grew.alloc _ _) ⟨_, _, rfl, (Blk.new wx 5 (nums .u8 [(b0 : Int), (b1 : Int), (b2 : Int), (b3 : Int)])).C (by simp)⟩
                refine ⟨fun a_ wx hR hD K hK => ?_, ?_⟩
                · have hG : Grew wr wx := (Grew.drew _).trans hR
                  simp [Deps, Dep, at_, Is] at hD
                  obtain ⟨A', c', hv', hC'⟩ := hD
                  have hcv := HST.out _ _ c' hC'
                  go_simp
                  exact hK _ _ (Grew.refl _) rfl
                trivial
              · show EndHold _ _ _ _ _ _ _
                intro v66
                refine end_all (xs := [_, _, _, _, _, _, _, _, _, _, _, _, _, _, _, _, _, _, _, _, _, _, _, _]) ⟨rfl, rfl, rfl, rfl, rfl, rfl, rfl, rfl, rfl, rfl, rfl, rfl, rfl, rfl, rfl, rfl, rfl, rfl, rfl, rfl, rfl, rfl, rfl, rfl, trivial⟩ ?_
                rintro w5 hR1 ⟨-, hRow⟩
                refine ⟨?_⟩
                have hG_w5 : Grew wr w5 := (Grew.drew _).trans hR1
                clear hR1
                simp only [Act.put, List.setIfInBounds_toArray, List.set_cons_succ, List.set_cons_zero, dropN, putEach]
                go_wp2_with fail
                go_roundw
                case rel => exact ⟨i + 1, _, rfl, HO2.out, by go_num, by omega, HS2.out.grew hG_w5, Grew.trans HG2.out hG_w5⟩
                case measure => simp [intOf]; omega
            · have d1 : decide ((i : Int) < 8) = false := decide_eq_false (by omega)
              obtain rfl : i = 8 := by omega
              rw [List.take_of_length_le (by rw [HSl.out]; omega), ← HOut.out] at hO
              have HO := Lib.hid hO
              clear hO
              go_wp2_with fail
              go_ret
              refine ⟨_, rfl, ?_, hg2⟩
              rw [← HO.out]
              rfl
end Go.Proofs.Ytmifoihfpjomaaa.F

-- MacM
namespace Go.Proofs.Ytmifoihfpjomaaa.F
open Go Go.RowKit Go.Proofs.YtmifoihfpjomaaaW.PrintWords Go.Proofs.YtmifoihfpjomaaaW.PrintLast Go.Proofs.YtmifoihfpjomaaaW.PrintMore Go.Proofs.YtmifoihfpjomaaaR
set_option linter.unusedSimpArgs false
set_option linter.unusedVariables false
set_option maxRecDepth 100000
def bytes8' (l : List Int) : Prop := ∀ y ∈ l, 0 ≤ y ∧ y < 256
/-- a byte with a number added bit by bit -/
def x8 (a n : Int) : Int := Go.bits .xor .u8 a n
theorem x8_byte (a n : Int) : 0 ≤ x8 a n ∧ x8 a n < 256 := by
  unfold x8 Go.bits
  simp only []
  rw [IntKind.wrap_u8]
  omega
/-- a key of at most 64 bytes -/
def keyL (k : List Int) : List Int := if 64 < k.length then shaL k else k
theorem keyL_len (k : List Int) : (keyL k).length ≤ 64 := by
  unfold keyL
  split
  · rw [shaL_len]; omega
  · omega
theorem outL_bytes (s : List Nat) : bytes8' (outL s) := by
  intro y hy
  unfold outL at hy
  obtain ⟨x, -, hx⟩ := List.mem_flatMap.1 hy
  unfold outW at hx
  simp only [List.mem_cons, List.not_mem_nil, or_false] at hx
  rcases hx with rfl | rfl | rfl | rfl <;> omega
theorem shaL_bytes (l : List Int) : bytes8' (shaL l) := outL_bytes _
theorem keyL_bytes {k : List Int} (h : bytes8' k) : bytes8' (keyL k) := by
  unfold keyL
  split
  · exact shaL_bytes k
  · exact h
/-- filled up to 64 -/
def fill64 (l : List Int) : List Int := l ++ List.replicate (64 - l.length) 0
theorem fill64_len {l : List Int} (h : l.length ≤ 64) : (fill64 l).length = 64 := by unfold fill64; rw [List.length_append, List.length_replicate]; omega
/-- the first i bytes turned -/
def xorTo (l : List Int) (n : Int) (i : Nat) : List Int := (List.range 64).map fun j => if j < i then x8 (l.getD j 0) n else l.getD j 0
theorem xorTo_len (l : List Int) (n : Int) (i : Nat) : (xorTo l n i).length = 64 := by simp [xorTo]
theorem xorTo_get (l : List Int) (n : Int) (i j : Nat) (h : j < 64) : (xorTo l n i)[j]? = some (if j < i then x8 (l.getD j 0) n else l.getD j 0) := by
  unfold xorTo
  rw [List.getElem?_map, List.getElem?_range h]; rfl
theorem xorTo_at (l : List Int) (n : Int) (i : Nat) (h : i < 64) : (xorTo l n i).getD i 0 = l.getD i 0 := by
  rw [List.getD_eq_getElem?_getD, xorTo_get l n i i h, if_neg (by omega)]; rfl
theorem xorTo_0 (l : List Int) (n : Int) (h : l.length = 64) : xorTo l n 0 = l := by
  apply List.ext_getElem?
  intro j
  by_cases hj : j < 64
  · rw [xorTo_get l n 0 j hj, if_neg (by omega), List.getElem?_eq_getElem (by omega : j < l.length), List.getD_eq_getElem?_getD, List.getElem?_eq_getElem (by omega : j < l.length)]; rfl
  · rw [List.getElem?_eq_none (by rw [xorTo_len]; omega), List.getElem?_eq_none (by omega)]
theorem xorTo_succ (l : List Int) (n : Int) (i : Nat) (h : i < 64) : (xorTo l n i).set i (x8 (l.getD i 0) n) = xorTo l n (i + 1) := by
  apply List.ext_getElem?
  intro j
  by_cases hj : j < 64
  · rw [List.getElem?_set, xorTo_len, xorTo_get l n (i + 1) j hj, xorTo_get l n i j hj]
    by_cases e : i = j
    · subst e; rw [if_pos rfl, if_pos h, if_pos (by omega)]
    · rw [if_neg e]
      by_cases h1 : j < i
      · rw [if_pos h1, if_pos (by omega)]
      · rw [if_neg h1, if_neg (by omega)]
  · rw [List.getElem?_eq_none (by rw [List.length_set, xorTo_len]; omega), List.getElem?_eq_none (by rw [xorTo_len]; omega)]
/-- a key's block -/
def turnedL (k : List Int) (n : Int) : List Int := xorTo (fill64 (keyL k)) n 64
theorem turnedL_len (k : List Int) (n : Int) : (turnedL k n).length = 64 := xorTo_len _ _ _
theorem turnedL_bytes (k : List Int) (n : Int) : bytes8' (turnedL k n) := by
  intro y hy
  unfold turnedL xorTo at hy
  obtain ⟨j, hj, rfl⟩ := List.mem_map.1 hy
  rw [if_pos (List.mem_range.1 hj)]
  exact x8_byte _ _
theorem turnedL_succ (k : List Int) (n : Int) (i : Nat) (h : i < 64) : (turnedL k n).take (i + 1) = (turnedL k n).take i ++ [x8 ((fill64 (keyL k)).getD i 0) n] := by
  rw [List.take_add_one]
  unfold turnedL
  rw [xorTo_get _ _ _ _ h, if_pos h]; rfl
/-- the seal -/
def sealL (k m : List Int) : List Int := shaL (turnedL k 92 ++ shaL (turnedL k 54 ++ m))
theorem sealL_len (k m : List Int) : (sealL k m).length = 32 := shaL_len _
theorem sealL_bytes (k m : List Int) : bytes8' (sealL k m) := shaL_bytes _
theorem str_cells {l : List Int} (h : bytes8' l) : ((strOfNums l).data.toList.map fun x => Value.int .u8 (x.toNat : Int)) = nums .u8 l := by
  show ((l.map fun n => UInt8.ofNat n.toNat).map fun x => Value.int .u8 (x.toNat : Int)) = l.map fun n => Value.int .u8 n
  rw [List.map_map]
  apply List.map_congr_left
  intro n hn
  have := h n hn
  show Value.int .u8 ((UInt8.ofNat n.toNat).toNat : Int) = _
  rw [UInt8.toNat_ofNat']
  congr 1
  omega
theorem bytesOf_str' {l : List Int} (h : bytes8' l) : bytesOf (strOfNums l) = l := by
  unfold bytesOf
  show ((l.map fun n => UInt8.ofNat n.toNat).map fun x => (x.toNat : Int)) = l
  rw [List.map_map]
  conv => rhs; rw [← List.map_id l]
  apply List.map_congr_left
  intro n hn
  have := h n hn
  show ((UInt8.ofNat n.toNat).toNat : Int) = n
  rw [UInt8.toNat_ofNat']
  omega
theorem set_fill {l : List Int} (h : l.length ≤ 64) : setL (nums .u8 (List.replicate 64 0)) 0 (nums .u8 l) = nums .u8 (fill64 l) := by
  have e := setL_mid [] (nums .u8 l) (nums .u8 (List.replicate l.length 0)) (nums .u8 (List.replicate (64 - l.length) 0)) (by simp [nums])
  have e2 : nums .u8 (List.replicate 64 0) = nums .u8 (List.replicate l.length 0) ++ nums .u8 (List.replicate (64 - l.length) 0) := by
    unfold nums
    rw [← List.map_append, List.replicate_append_replicate]
    congr 2
    omega
  rw [e2]
  have e3 : nums .u8 (fill64 l) = nums .u8 l ++ nums .u8 (List.replicate (64 - l.length) 0) := by unfold nums fill64; rw [List.map_append]
  rw [e3]
  exact e
theorem wpList_copyS {P : Program} {w : World} {ops : Array Oper} {rest : List Oper} {o : Oper} {a : Act} {Q : Exit → Act → World → Prop} (hgd : o.guard = none) (d s : Operand) (t t' : TypeId)
    (ho : o.op = .call { callee := .builtin .copy, args := #[d, s], argTypes := #[t, t'] }) {v u : Value} (hd : a.eval d = v) (hs : a.eval s = u) {v' : Value} {w' : World}
    (hr : (Builtin.copy_ #[t, t'] o.type #[v, u]).run P w = .ok v' w') (h : wpList P ops Q rest (a.put o.dst v') w') : wpList P ops Q (o :: rest) a w :=
  wpList_plain hgd fun K hK => by
    unfold Oper.wp execOp
    simp only [ho, resolve, invoke, builtin, Sem.run_bind, Sem.run_pure, Result.andThen_ok, List.map_toArray, List.map_cons, List.map_nil, hd, hs, hr]
    exact hK _ _ h
end Go.Proofs.Ytmifoihfpjomaaa.F

-- MacT
namespace Go.Proofs.Ytmifoihfpjomaaa.F
open Go Go.RowKit Go.Proofs.YtmifoihfpjomaaaW.PrintWords Go.Proofs.YtmifoihfpjomaaaW.PrintLast Go.Proofs.YtmifoihfpjomaaaW.PrintMore Go.Proofs.YtmifoihfpjomaaaR
attribute [local go_sem] max2_int min2_int max_two min_two
set_option linter.unusedSimpArgs false
set_option linter.unusedVariables false
set_option maxRecDepth 100000
theorem zerosB : (nums .u8 (List.replicate 64 0)).toArray = #[Value.int IntKind.u8 0, Value.int IntKind.u8 0, Value.int IntKind.u8 0, Value.int IntKind.u8 0, Value.int IntKind.u8 0, Value.int IntKind.u8 0, Value.int IntKind.u8 0, Value.int IntKind.u8 0, Value.int IntKind.u8 0, Value.int IntKind.u8 0, Value.int IntKind.u8 0, Value.int IntKind.u8 0, Value.int IntKind.u8 0, Value.int IntKind.u8 0, Value.int IntKind.u8 0, Value.int IntKind.u8 0, Value.int IntKind.u8 0, Value.int IntKind.u8 0, Value.int IntKind.u8 0, Value.int IntKind.u8 0, Value.int IntKind.u8 0, Value.int IntKind.u8 0, Value.int IntKind.u8 0, Value.int IntKind.u8 0, Value.int IntKind.u8 0, Value.int IntKind.u8 0, Value.int IntKind.u8 0, Value.int IntKind.u8 0, Value.int IntKind.u8 0, Value.int IntKind.u8 0, Value.int IntKind.u8 0, Value.int IntKind.u8 0, Value.int IntKind.u8 0, Value.int IntKind.u8 0, Value.int IntKind.u8 0, Value.int IntKind.u8 0, Value.int IntKind.u8 0, Value.int IntKind.u8 0, Value.int IntKind.u8 0, Value.int IntKind.u8 0, Value.int IntKind.u8 0, Value.int IntKind.u8 0, Value.int IntKind.u8 0, Value.int IntKind.u8 0, Value.int IntKind.u8 0, Value.int IntKind.u8 0, Value.int IntKind.u8 0, Value.int IntKind.u8 0, Value.int IntKind.u8 0, Value.int IntKind.u8 0, Value.int IntKind.u8 0, Value.int IntKind.u8 0, Value.int IntKind.u8 0, Value.int IntKind.u8 0, Value.int IntKind.u8 0, Value.int IntKind.u8 0, Value.int IntKind.u8 0, Value.int IntKind.u8 0, Value.int IntKind.u8 0, Value.int IntKind.u8 0, Value.int IntKind.u8 0, Value.int IntKind.u8 0, Value.int IntKind.u8 0, Value.int IntKind.u8 0] := by rfl
theorem nums_get (l : List Int) (i : Nat) (h : i < l.length) : (nums .u8 l)[i]? = some (.int .u8 (l.getD i 0)) := by
  unfold nums
  rw [List.getElem?_map, List.getElem?_eq_getElem h, List.getD_eq_getElem?_getD, List.getElem?_eq_getElem h]; rfl
theorem nums_set (l : List Int) (i : Nat) (x : Int) : (nums .u8 l).set i (.int .u8 x) = nums .u8 (l.set i x) := by
  unfold nums; rw [List.map_set]
set_option maxHeartbeats 4000000 in
theorem turned_c (w : World) (k : List Int) (n : Int) (hb : bytes8' k) (hk : k.length ≤ 1000000000) :
    Calls Try.prog 37 #[.string (strOfNums k), .int .u8 n] w (Tells w (fun w' v => ∃ g, v = .slice (some ⟨g, 0, none⟩) 64 64 ∧ w.heap.size ≤ g ∧ Blk w' g 90 (nums .u8 (turnedL k n)))) := by
  have hsz := str_size k
  obtain ⟨B, hB⟩ : ∃ B, B = strOfNums k := ⟨_, rfl⟩
  rw [← hB] at hsz ⊢
  obtain ⟨nk, hnk⟩ : ∃ nk, nk = k.length := ⟨_, rfl⟩
  rw [← hnk] at hsz hk
  have hby := fun W => print_bytes (P := Try.prog) 9 45 5 Try.underlying9 Try.underlying45 Try.underlying5 B W
  obtain ⟨K, hKe⟩ : ∃ K, K = strOfNums (keyL k) := ⟨_, rfl⟩
  have hkl := keyL_len k
  have hkb := keyL_bytes hb
  have hKs : K.size = (keyL k).length := by rw [hKe, str_size]
  have hKc : (K.data.toList.map fun x => Value.int .u8 (x.toNat : Int)) = nums .u8 (keyL k) := by rw [hKe]; exact str_cells hkb
  obtain ⟨nn, hnn⟩ : ∃ nn, nn = (keyL k).length := ⟨_, rfl⟩
  rw [← hnn] at hkl hKs
  have HKS := Lib.hid hKs
  have HKC := Lib.hid hKc
  have HNN := Lib.hid hnn
  have HNK := Lib.hid hnk
  have HBe := Lib.hid hB
  have HBY := Lib.hid hb
  have HKE := Lib.hid hKe
  by_cases hbig : 64 < nk
  · have d1 : decide (64 < nk) = true := decide_eq_true hbig
    have d1' : decide (64 < (nk : Int)) = true := decide_eq_true (by omega)
    have hs := fun c (hc : nk ≤ c) => sum1_c (Lib.bytesWorld w 5 B) (some ⟨w.heap.size, 0, none⟩) c nk k (C_of (by
      have h := bytes_reads w 5 B (by rw [hsz]; omega)
      rw [hsz, hB, bytesOf_str' hb] at h
      rw [hB]; exact h)) hnk.symm hc (by omega) hb
    have hke : keyL k = shaL k := by unfold keyL; rw [if_pos (by omega)]
    rw [← hke, ← hKe] at hs
    have hcap := grownCap_ge w nk 0 5
    have HS := Lib.hid (hs _ hcap)
    have hg0 : Grew w (Lib.bytesWorld w 5 B) := bytes_below (Below.refl _ _) (Nat.le_refl _) _ _
    have HG0 := Lib.hid hg0
    rw [hsz] at hby
    clear hs hke hb hKs hKc hnn hnk hB hKe hcap hg0
    go_enter Try.func37, Try.ntmps37
    go_wp2_with fail
    refine HS.out.mono ?_
    rintro e w1 ⟨_, rfl, rfl, hg1⟩
    have hgw := Grew.trans HG0.out hg1
    have HGW := Lib.hid hgw
    obtain ⟨gB, hgB⟩ : ∃ gB, gB = w1.heap.size := ⟨_, rfl⟩
    have hgle : w.heap.size ≤ gB := by rw [hgB]; exact HGW.out.size
    have hbl : Blk (w1.alloc (.cells (nums .u8 (List.replicate 64 0)).toArray 90)) gB 90 (nums .u8 (List.replicate 64 0)) := by rw [hgB]; exact Blk.new _ _ _
    have hrun := run_copy_string (P := Try.prog) (w1.alloc (.cells (nums .u8 (List.replicate 64 0)).toArray 90)) 45 9 3 5 gB 0 64 64 K Try.underlying45 (fun _ => by rfl) (by rw [HKS.out]; exact hkl)
      (fun j hj => by rw [hbl.at_, nums_get _ _ (by rw [HKS.out] at hj; simp; omega)]; rfl) (fun j hj => hbl.fz _)
    rw [HKC.out] at hrun
    have hb2 := Blk.setCells (nums .u8 (keyL k)) 0 hbl
    rw [set_fill (by rw [← HNN.out]; exact hkl)] at hb2
    have hg2 : Grew w ((w1.alloc (.cells (nums .u8 (List.replicate 64 0)).toArray 90)).setCells gB 0 (nums .u8 (keyL k))) := by
      have h1 : Upd (fun _ => False) w1 ((w1.alloc (.cells (nums .u8 (List.replicate 64 0)).toArray 90)).setCells gB 0 (nums .u8 (keyL k))) := Upd.setCells (.inr (by rw [hgB]; exact Nat.le_refl _)) _ _ (Upd.of_grew (Grew.alloc _ _))
      exact Grew.trans HGW.out (h1.grew (by simp))
    have hfl : (fill64 (keyL k)).length = 64 := fill64_len (by rw [← HNN.out]; exact hkl)
    obtain ⟨F, hF⟩ : ∃ F, F = fill64 (keyL k) := ⟨_, rfl⟩
    rw [← hF] at hb2 hfl
    have hx0 : xorTo F n 0 = F := xorTo_0 F n hfl
    obtain ⟨W2, hW2⟩ : ∃ W2, W2 = ((w1.alloc (.cells (nums .u8 (List.replicate 64 0)).toArray 90)).setCells gB 0 (nums .u8 (keyL k))) := ⟨_, rfl⟩
    rw [← hW2] at hb2 hg2 hrun
    rw [← hx0] at hb2
    have HFe := Lib.hid hF
    rw [zerosB, hgB] at hrun
    have HG2 := Lib.hid hg2
    have HB2 := Lib.hid hb2
    clear hbl hF hW2 hfl hx0 hg2 hb2
    try clear hkl
    go_wp2_with (refine wpList_copyS (by rfl) (.tmp 13) (.tmp 14) 45 9 (by rfl) (by rfl) (by rfl) hrun ?_)
    rw [← hgB]
    clear hgB
    go_loopw [16] (fun iv wq => ∃ i : Nat, iv = .int .i64 (i : Int) ∧ i ≤ 64 ∧ Blk wq gB 90 (nums .u8 (xorTo F n i)) ∧ Grew w wq) (fun iv _ => 64 - (intOf iv).toNat)
    case atStart => exact ⟨0, rfl, by omega, HB2.out, HG2.out⟩
    case round =>
      obtain ⟨i, rfl, hi, hbq, hgq⟩ := hrel
      by_cases hi8 : i < 64
      · have d2 : decide ((i : Int) < 64) = true := decide_eq_true (by omega)
        have i1 : (i : Int) < 64 := by omega
        have c1 := hbq.at_ i
        rw [nums_get _ _ (by rw [xorTo_len]; exact hi8), xorTo_at _ _ _ hi8] at c1
        have c2 := hbq.fz i
        obtain ⟨y, hy⟩ : ∃ y, y = F.getD i 0 := ⟨_, rfl⟩
        rw [← hy] at c1
        obtain ⟨z, hz⟩ : ∃ z, z = x8 y n := ⟨_, rfl⟩
        have hz' : Go.bits .xor .u8 y n = z := hz.symm
        have HBq := Lib.hid hbq
        have HGq := Lib.hid hgq
        have HY := Lib.hid hy
        have HZ := Lib.hid hz
        clear hbq hgq hy hz hrun
        go_wp2_with fail
        go_roundw
        case rel =>
          refine ⟨i + 1, by go_num, by omega, ?_, Grew.setCell_new HGq.out (by simpa using hgle) _⟩
          have h := HBq.out.set i (.int .u8 z)
          rw [nums_set, HZ.out, HY.out, xorTo_succ _ _ _ hi8] at h
          rw [HZ.out, HY.out]
          exact h
        case measure => simp [intOf]; omega
      · have d2 : decide ((i : Int) < 64) = false := decide_eq_false (by omega)
        obtain rfl : i = 64 := by omega
        have HBq := Lib.hid hbq
        clear hbq hrun
        go_wp2_with fail
        go_ret
        refine ⟨_, rfl, ⟨gB, rfl, hgle, ?_⟩, hgq⟩
        unfold turnedL
        rw [← HFe.out]
        exact HBq.out
  · have d1 : decide (64 < nk) = false := decide_eq_false hbig
    have d1' : decide (64 < (nk : Int)) = false := decide_eq_false (by omega)
    have hke : keyL k = k := by unfold keyL; rw [if_neg (by omega)]
    have hBK : K = B := by rw [hB, hKe, hke]
    have HNB := Lib.hid (show nk = nn from by rw [hnk, hnn, hke])
    clear hb hKs hKc hnn hnk hke hB hKe
    subst hBK
    have hgw := Grew.refl w
    go_enter Try.func37, Try.ntmps37
    have HGW := Lib.hid hgw
    obtain ⟨gB, hgB⟩ : ∃ gB, gB = w.heap.size := ⟨_, rfl⟩
    have hgle : w.heap.size ≤ gB := by rw [hgB]; exact HGW.out.size
    have hbl : Blk (w.alloc (.cells (nums .u8 (List.replicate 64 0)).toArray 90)) gB 90 (nums .u8 (List.replicate 64 0)) := by rw [hgB]; exact Blk.new _ _ _
    have hrun := run_copy_string (P := Try.prog) (w.alloc (.cells (nums .u8 (List.replicate 64 0)).toArray 90)) 45 9 3 5 gB 0 64 64 K Try.underlying45 (fun _ => by rfl) (by rw [HKS.out]; exact hkl)
      (fun j hj => by rw [hbl.at_, nums_get _ _ (by rw [HKS.out] at hj; simp; omega)]; rfl) (fun j hj => hbl.fz _)
    rw [HKC.out] at hrun
    have hb2 := Blk.setCells (nums .u8 (keyL k)) 0 hbl
    rw [set_fill (by rw [← HNN.out]; exact hkl)] at hb2
    have hg2 : Grew w ((w.alloc (.cells (nums .u8 (List.replicate 64 0)).toArray 90)).setCells gB 0 (nums .u8 (keyL k))) := by
      have h1 : Upd (fun _ => False) w ((w.alloc (.cells (nums .u8 (List.replicate 64 0)).toArray 90)).setCells gB 0 (nums .u8 (keyL k))) := Upd.setCells (.inr (by rw [hgB]; exact Nat.le_refl _)) _ _ (Upd.of_grew (Grew.alloc _ _))
      exact Grew.trans HGW.out (h1.grew (by simp))
    have hfl : (fill64 (keyL k)).length = 64 := fill64_len (by rw [← HNN.out]; exact hkl)
    obtain ⟨F, hF⟩ : ∃ F, F = fill64 (keyL k) := ⟨_, rfl⟩
    rw [← hF] at hb2 hfl
    have hx0 : xorTo F n 0 = F := xorTo_0 F n hfl
    obtain ⟨W2, hW2⟩ : ∃ W2, W2 = ((w.alloc (.cells (nums .u8 (List.replicate 64 0)).toArray 90)).setCells gB 0 (nums .u8 (keyL k))) := ⟨_, rfl⟩
    rw [← hW2] at hb2 hg2 hrun
    rw [← hx0] at hb2
    have HFe := Lib.hid hF
    rw [zerosB, hgB] at hrun
    have HG2 := Lib.hid hg2
    have HB2 := Lib.hid hb2
    clear hbl hF hW2 hfl hx0 hg2 hb2
    try clear hkl
    go_wp2_with (refine wpList_copyS (by rfl) (.tmp 13) (.tmp 14) 45 9 (by rfl) (by rfl) (by rfl) hrun ?_)
    rw [← hgB]
    clear hgB
    go_loopw [16] (fun iv wq => ∃ i : Nat, iv = .int .i64 (i : Int) ∧ i ≤ 64 ∧ Blk wq gB 90 (nums .u8 (xorTo F n i)) ∧ Grew w wq) (fun iv _ => 64 - (intOf iv).toNat)
    case atStart => exact ⟨0, rfl, by omega, HB2.out, HG2.out⟩
    case round =>
      obtain ⟨i, rfl, hi, hbq, hgq⟩ := hrel
      by_cases hi8 : i < 64
      · have d2 : decide ((i : Int) < 64) = true := decide_eq_true (by omega)
        have i1 : (i : Int) < 64 := by omega
        have c1 := hbq.at_ i
        rw [nums_get _ _ (by rw [xorTo_len]; exact hi8), xorTo_at _ _ _ hi8] at c1
        have c2 := hbq.fz i
        obtain ⟨y, hy⟩ : ∃ y, y = F.getD i 0 := ⟨_, rfl⟩
        rw [← hy] at c1
        obtain ⟨z, hz⟩ : ∃ z, z = x8 y n := ⟨_, rfl⟩
        have hz' : Go.bits .xor .u8 y n = z := hz.symm
        have HBq := Lib.hid hbq
        have HGq := Lib.hid hgq
        have HY := Lib.hid hy
        have HZ := Lib.hid hz
        clear hbq hgq hy hz hrun
        go_wp2_with fail
        go_roundw
        case rel =>
          refine ⟨i + 1, by go_num, by omega, ?_, Grew.setCell_new HGq.out (by simpa using hgle) _⟩
          have h := HBq.out.set i (.int .u8 z)
          rw [nums_set, HZ.out, HY.out, xorTo_succ _ _ _ hi8] at h
          rw [HZ.out, HY.out]
          exact h
        case measure => simp [intOf]; omega
      · have d2 : decide ((i : Int) < 64) = false := decide_eq_false (by omega)
        obtain rfl : i = 64 := by omega
        have HBq := Lib.hid hbq
        clear hbq hrun
        go_wp2_with fail
        go_ret
        refine ⟨_, rfl, ⟨gB, rfl, hgle, ?_⟩, hgq⟩
        unfold turnedL
        rw [← HFe.out]
        exact HBq.out
end Go.Proofs.Ytmifoihfpjomaaa.F

-- MacR
namespace Go.Proofs.Ytmifoihfpjomaaa.F
open Go Go.RowKit Go.Proofs.YtmifoihfpjomaaaW.PrintWords Go.Proofs.YtmifoihfpjomaaaW.PrintLast Go.Proofs.YtmifoihfpjomaaaW.PrintMore Go.Proofs.YtmifoihfpjomaaaR
attribute [local go_sem] max2_int min2_int max_two min_two
set_option linter.unusedSimpArgs false
set_option linter.unusedVariables false
set_option maxRecDepth 100000
set_option maxHeartbeats 4000000 in
theorem rturned_c (w : World) (k : List Int) (n : Int) (hb : bytes8' k) (hk : k.length ≤ 1000000000) :
    Calls Try.prog 61 #[.string (strOfNums k), .int .u8 n] w (Tells w (Is (.string (strOfNums (turnedL k n))))) := by
  have hsz := str_size k
  obtain ⟨B, hB⟩ : ∃ B, B = strOfNums k := ⟨_, rfl⟩
  rw [← hB] at hsz ⊢
  obtain ⟨nk, hnk⟩ : ∃ nk, nk = k.length := ⟨_, rfl⟩
  rw [← hnk] at hsz hk
  obtain ⟨K, hKe⟩ : ∃ K, K = strOfNums (keyL k) := ⟨_, rfl⟩
  have hkl := keyL_len k
  have HKB := Lib.hid (keyL_bytes hb)
  have hKs : K.size = (keyL k).length := by rw [hKe, str_size]
  obtain ⟨nn, hnn⟩ : ∃ nn, nn = (keyL k).length := ⟨_, rfl⟩
  rw [← hnn] at hkl hKs
  have HKS := Lib.hid hKs
  have HNN := Lib.hid hnn
  have HNK := Lib.hid hnk
  have HKE := Lib.hid hKe
  by_cases hbig : 64 < nk
  · have d1 : decide (64 < nk) = true := decide_eq_true hbig
    have d1' : decide (64 < (nk : Int)) = true := decide_eq_true (by omega)
    have hs := rsum_c w k (by omega) hb
    have hke : keyL k = shaL k := by unfold keyL; rw [if_pos (by omega)]
    rw [← hke, ← hKe, ← hB] at hs
    have HS := Lib.hid hs
    clear hs hke hb hKs hnn hnk hB hKe
    go_enter Try.func61, Try.ntmps61
    go_wp2_with fail
    refine HS.out.mono ?_
    rintro e w1 ⟨_, rfl, rfl, hgw⟩
    have HGW := Lib.hid hgw
    clear hgw hsz
    go_wp2_with fail
    go_loopw [5, 6] (fun v5 iv wq => ∃ (i : Nat) (O : ByteArray), v5 = .string O ∧ O = strOfNums ((turnedL k n).take i) ∧ iv = .int .i64 (i : Int) ∧ i ≤ 64 ∧ Grew w wq) (fun _ iv _ => 64 - (intOf iv).toNat)
    case atStart => exact ⟨0, _, rfl, rfl, rfl, by omega, HGW.out⟩
    case round =>
      obtain ⟨i, O, rfl, hO, rfl, hi, hgq⟩ := hrel
      by_cases hi8 : i < 64
      · have d2 : decide ((i : Int) < 64) = true := decide_eq_true (by omega)
        obtain ⟨y, hy⟩ : ∃ y, y = (fill64 (keyL k)).getD i 0 := ⟨_, rfl⟩
        obtain ⟨z, hz⟩ : ∃ z, z = x8 y n := ⟨_, rfl⟩
        have hz' : Go.bits .xor .u8 y n = z := hz.symm
        have hsucc : (turnedL k n).take (i + 1) = (turnedL k n).take i ++ [z] := by rw [turnedL_succ k n i hi8, hz, hy]
        obtain ⟨Q, hQ⟩ : ∃ Q, Q = strOfNums [z] := ⟨_, rfl⟩
        obtain ⟨O2, hO2⟩ : ∃ O2, O2 = strOfNums ((turnedL k n).take (i + 1)) := ⟨_, rfl⟩
        have hadd : O ++ Q = O2 := by rw [hO, hQ, hO2, hsucc, str_append]
        have hzz : ¬ (9223372036854775807 < O.size + Q.size) := by
          rw [hO, hQ, str_size, str_size, List.length_take]; simp; omega
        have hst : (convert 45 9 (.slice (some ⟨wr.heap.size, 0, none⟩) 1 1)).run Try.prog (wr.alloc (.cells #[.int .u8 z] 5)) = .ok (.string Q) (wr.alloc (.cells #[.int .u8 z] 5)) := by
          rw [hQ]; exact Kd.C_string (P := Try.prog) Try.underlying45 Try.underlying5 Try.underlying9 ((Blk.new wr 5 (nums .u8 [z])).C (by simp))
        have HO2 := Lib.hid hO2
        have HGq := Lib.hid hgq
        have hks := HKS.out
        by_cases hin : i < nn
        · have d3 : decide ((i : Int) < (nn : Int)) = true := decide_eq_true (by omega)
          have hix : ∀ w', Sem.run Try.prog (Instr.index 9 (.string K) (.int .i64 (i : Int))) w' = .ok (.int .u8 y) w' := fun w' => by
            rw [run_index_string w' _ K .i64 _ (by rfl), dif_pos ⟨by omega, by rw [hks]; omega⟩]
            congr 2
            have h1 := str_at (keyL k) HKB.out i (by rw [← HKE.out, hks]; exact hin)
            have h2 : ((byteN (keyL k) i : Nat) : Int) = y := by
              rw [hy]
              unfold byteN fill64
              have h3 : i < (keyL k).length := by rw [← HNN.out]; exact hin
              rw [List.getD_eq_getElem?_getD, List.getD_eq_getElem?_getD, List.getElem?_append_left h3, List.getElem?_eq_getElem h3]
              have := HKB.out _ (List.getElem_mem h3)
              simp; omega
            rw [← h2, ← h1]
            have e := HKE.out
            subst e
            rfl
          clear hO hy hz hQ hO2 hgq hsucc
          go_wp2_with fail
          go_roundw
          case rel => exact ⟨i + 1, _, rfl, HO2.out, by go_num, by omega, Grew.trans HGq.out (Grew.alloc _ _)⟩
          case measure => simp [intOf]; omega
        · have d3 : decide ((i : Int) < (nn : Int)) = false := decide_eq_false (by omega)
          have hy0 : y = 0 := by
            rw [hy]
            unfold fill64
            rw [List.getD_eq_getElem?_getD, List.getElem?_append_right (by rw [← HNN.out]; omega), List.getElem?_replicate]
            split <;> rfl
          subst hy0
          clear hO hy hz hQ hO2 hgq hsucc
          go_wp2_with fail
          go_roundw
          case rel => exact ⟨i + 1, _, rfl, HO2.out, by go_num, by omega, Grew.trans HGq.out (Grew.alloc _ _)⟩
          case measure => simp [intOf]; omega
      · have d2 : decide ((i : Int) < 64) = false := decide_eq_false (by omega)
        obtain rfl : i = 64 := by omega
        rw [List.take_of_length_le (by rw [turnedL_len]; exact Nat.le_refl _)] at hO
        have HO := Lib.hid hO
        clear hO
        go_wp2_with fail
        go_ret
        refine ⟨_, rfl, ?_, hgq⟩
        rw [← HO.out]
        rfl
  · have d1 : decide (64 < nk) = false := decide_eq_false hbig
    have d1' : decide (64 < (nk : Int)) = false := decide_eq_false (by omega)
    have hke : keyL k = k := by unfold keyL; rw [if_neg (by omega)]
    have hBK : K = B := by rw [hB, hKe, hke]
    subst hBK
    have HGW := Lib.hid (Grew.refl w)
    clear hb hKs hnn hnk hke hB hKe
    go_enter Try.func61, Try.ntmps61
    go_wp2_with fail
    clear hsz
    go_loopw [5, 6] (fun v5 iv wq => ∃ (i : Nat) (O : ByteArray), v5 = .string O ∧ O = strOfNums ((turnedL k n).take i) ∧ iv = .int .i64 (i : Int) ∧ i ≤ 64 ∧ Grew w wq) (fun _ iv _ => 64 - (intOf iv).toNat)
    case atStart => exact ⟨0, _, rfl, rfl, rfl, by omega, HGW.out⟩
    case round =>
      obtain ⟨i, O, rfl, hO, rfl, hi, hgq⟩ := hrel
      by_cases hi8 : i < 64
      · have d2 : decide ((i : Int) < 64) = true := decide_eq_true (by omega)
        obtain ⟨y, hy⟩ : ∃ y, y = (fill64 (keyL k)).getD i 0 := ⟨_, rfl⟩
        obtain ⟨z, hz⟩ : ∃ z, z = x8 y n := ⟨_, rfl⟩
        have hz' : Go.bits .xor .u8 y n = z := hz.symm
        have hsucc : (turnedL k n).take (i + 1) = (turnedL k n).take i ++ [z] := by rw [turnedL_succ k n i hi8, hz, hy]
        obtain ⟨Q, hQ⟩ : ∃ Q, Q = strOfNums [z] := ⟨_, rfl⟩
        obtain ⟨O2, hO2⟩ : ∃ O2, O2 = strOfNums ((turnedL k n).take (i + 1)) := ⟨_, rfl⟩
        have hadd : O ++ Q = O2 := by rw [hO, hQ, hO2, hsucc, str_append]
        have hzz : ¬ (9223372036854775807 < O.size + Q.size) := by
          rw [hO, hQ, str_size, str_size, List.length_take]; simp; omega
        have hst : (convert 45 9 (.slice (some ⟨wr.heap.size, 0, none⟩) 1 1)).run Try.prog (wr.alloc (.cells #[.int .u8 z] 5)) = .ok (.string Q) (wr.alloc (.cells #[.int .u8 z] 5)) := by
          rw [hQ]; exact Kd.C_string (P := Try.prog) Try.underlying45 Try.underlying5 Try.underlying9 ((Blk.new wr 5 (nums .u8 [z])).C (by simp))
        have HO2 := Lib.hid hO2
        have HGq := Lib.hid hgq
        have hks := HKS.out
        by_cases hin : i < nn
        · have d3 : decide ((i : Int) < (nn : Int)) = true := decide_eq_true (by omega)
          have hix : ∀ w', Sem.run Try.prog (Instr.index 9 (.string K) (.int .i64 (i : Int))) w' = .ok (.int .u8 y) w' := fun w' => by
            rw [run_index_string w' _ K .i64 _ (by rfl), dif_pos ⟨by omega, by rw [hks]; omega⟩]
            congr 2
            have h1 := str_at (keyL k) HKB.out i (by rw [← HKE.out, hks]; exact hin)
            have h2 : ((byteN (keyL k) i : Nat) : Int) = y := by
              rw [hy]
              unfold byteN fill64
              have h3 : i < (keyL k).length := by rw [← HNN.out]; exact hin
              rw [List.getD_eq_getElem?_getD, List.getD_eq_getElem?_getD, List.getElem?_append_left h3, List.getElem?_eq_getElem h3]
              have := HKB.out _ (List.getElem_mem h3)
              simp; omega
            rw [← h2, ← h1]
            have e := HKE.out
            subst e
            rfl
          clear hO hy hz hQ hO2 hgq hsucc
          go_wp2_with fail
          go_roundw
          case rel => exact ⟨i + 1, _, rfl, HO2.out, by go_num, by omega, Grew.trans HGq.out (Grew.alloc _ _)⟩
          case measure => simp [intOf]; omega
        · have d3 : decide ((i : Int) < (nn : Int)) = false := decide_eq_false (by omega)
          have hy0 : y = 0 := by
            rw [hy]
            unfold fill64
            rw [List.getD_eq_getElem?_getD, List.getElem?_append_right (by rw [← HNN.out]; omega), List.getElem?_replicate]
            split <;> rfl
          subst hy0
          clear hO hy hz hQ hO2 hgq hsucc
          go_wp2_with fail
          go_roundw
          case rel => exact ⟨i + 1, _, rfl, HO2.out, by go_num, by omega, Grew.trans HGq.out (Grew.alloc _ _)⟩
          case measure => simp [intOf]; omega
      · have d2 : decide ((i : Int) < 64) = false := decide_eq_false (by omega)
        obtain rfl : i = 64 := by omega
        rw [List.take_of_length_le (by rw [turnedL_len]; exact Nat.le_refl _)] at hO
        have HO := Lib.hid hO
        clear hO
        go_wp2_with fail
        go_ret
        refine ⟨_, rfl, ?_, hgq⟩
        rw [← HO.out]
        rfl
end Go.Proofs.Ytmifoihfpjomaaa.F

-- MacS
namespace Go.Proofs.Ytmifoihfpjomaaa.F
open Go Go.RowKit Go.Proofs.YtmifoihfpjomaaaW.PrintWords Go.Proofs.YtmifoihfpjomaaaW.PrintLast Go.Proofs.YtmifoihfpjomaaaW.PrintMore Go.Proofs.YtmifoihfpjomaaaR
attribute [local go_sem] max2_int min2_int max_two min_two
set_option linter.unusedSimpArgs false
set_option linter.unusedVariables false
set_option maxRecDepth 100000
/-- what Write leaves, with its count -/
def HashW (g : Nat) (l : List Int) (B : Nat) (w0 w : World) (rv : Value) : Prop := ∃ rv', HashA g l.length l rv' B w ∧ (∀ k, rv'.ownBlock = some k → rv.ownBlock = some k ∨ w0.heap.size ≤ k)
theorem write_h {g : Nat} {l : List Int} {rv : Value} {B : Nat} (w : World) (A : Option Addr) (c n : Nat) (x : List Int) (h : HashA g l.length l rv B w) (hn : x.length = n) (hBw : B ≤ w.heap.size)
    (hr : ∀ w', Upd (HS g rv) w w' → Kd.C (Kd.int .u8) w' A n x) (hc : n ≤ c) (hl : l.length + n ≤ 1000000000) (hb : bytes8' x) :
    Calls Try.prog 36 #[.pointer (some ⟨g, 0, none⟩), .slice A n c] w (Does (HS g rv) w (fun w' v => v = .tuple #[] ∧ HashW g (l ++ x) B w w' rv)) := by
  subst hn
  refine (write_c w A c x h hBw hr hc hl hb).mono ?_
  rintro e w' ⟨v, rfl, ⟨rfl, rv', hh, hf⟩, hu⟩
  rw [← List.length_append] at hh
  exact ⟨_, rfl, ⟨rfl, rv', hh, hf⟩, hu⟩
set_option maxHeartbeats 4000000 in
theorem seal_c (w : World) (k m : List Int) (hk : bytes8' k) (hm : bytes8' m) (hkl : k.length ≤ 100000000) (hml : m.length ≤ 100000000) :
    Calls Try.prog 23 #[.string (strOfNums k), .string (strOfNums m)] w (Tells w (Is (.string (strOfNums (sealL k m))))) := by
  have hms := str_size m
  have HT1 := Lib.hid (fun w => turned_c w k 54 hk (by omega))
  have HT2 := Lib.hid (fun w => turned_c w k 92 hk (by omega))
  obtain ⟨K, hK⟩ : ∃ K, K = strOfNums k := ⟨_, rfl⟩
  rw [← hK] at HT1 HT2 ⊢
  obtain ⟨M, hM⟩ : ∃ M, M = strOfNums m := ⟨_, rfl⟩
  rw [← hM] at hms ⊢
  obtain ⟨nm, hnm⟩ : ∃ nm, nm = m.length := ⟨_, rfl⟩
  rw [← hnm] at hms hml
  have hbym := fun W => print_bytes (P := Try.prog) 9 45 5 Try.underlying9 Try.underlying45 Try.underlying5 M W
  rw [hms] at hbym
  have hrdm : ∀ W, ReadsInt (Lib.bytesWorld W 5 M) .u8 (some ⟨W.heap.size, 0, none⟩) nm m := fun W => by
    have h := bytes_reads W 5 M (by rw [hms]; omega)
    rw [hms, hM, bytesOf_str' hm] at h
    rw [hM]; exact h
  obtain ⟨t1, ht1⟩ : ∃ t1, t1 = turnedL k 54 := ⟨_, rfl⟩
  obtain ⟨t2, ht2⟩ : ∃ t2, t2 = turnedL k 92 := ⟨_, rfl⟩
  have hl1 : t1.length = 64 := by rw [ht1]; exact turnedL_len _ _
  have hl2 : t2.length = 64 := by rw [ht2]; exact turnedL_len _ _
  have HB1 := Lib.hid (show bytes8' t1 from by rw [ht1]; exact turnedL_bytes _ _)
  have HB2 := Lib.hid (show bytes8' t2 from by rw [ht2]; exact turnedL_bytes _ _)
  obtain ⟨D, hD⟩ : ∃ D, D = shaL (t1 ++ m) := ⟨_, rfl⟩
  have hDl : D.length = 32 := by rw [hD]; exact shaL_len _
  have HDB := Lib.hid (show bytes8' D from by rw [hD]; exact shaL_bytes _)
  have hseal : sealL k m = shaL (t2 ++ D) := by rw [hD, ht1, ht2]; rfl
  rw [hseal]
  rw [← ht1] at HT1
  rw [← ht2] at HT2
  obtain ⟨DS, hDS⟩ : ∃ DS, DS = strOfNums D := ⟨_, rfl⟩
  have hdss : DS.size = 32 := by rw [hDS, str_size, hDl]
  have hbyd := fun W => print_bytes (P := Try.prog) 9 45 5 Try.underlying9 Try.underlying45 Try.underlying5 DS W
  rw [hdss] at hbyd
  have hrdd : ∀ W, ReadsInt (Lib.bytesWorld W 5 DS) .u8 (some ⟨W.heap.size, 0, none⟩) 32 D := fun W => by
    have h := bytes_reads W 5 DS (by rw [hdss]; omega)
    rw [hdss, hDS, bytesOf_str' HDB.out] at h
    rw [hDS]; exact h
  have HM := Lib.hid hm
  have HNM := Lib.hid hnm
  have HL1 := Lib.hid hl1
  have HL2 := Lib.hid hl2
  have HDL := Lib.hid hDl
  have HRM := Lib.hid hrdm
  have HRD := Lib.hid hrdd
  have HDe := Lib.hid hD
  have HDS := Lib.hid hDS
  have hbw : ∀ (W : World) (s : ByteArray), Grew W (Lib.bytesWorld W 5 s) := fun W s => bytes_below (Below.refl _ _) (Nat.le_refl _) _ _
  clear hk hm hnm hl1 hl2 hDl hrdm hrdd hD hDS ht1 ht2 hseal hK hM hms hdss
  go_enter Try.func23, Try.ntmps23
  go_wp2_with fail
  refine (new_h w).mono ?_
  rintro e w1 ⟨_, rfl, ⟨g, rfl, hh1⟩, hg1⟩
  go_wp2_with fail
  refine (HT1.out w1).mono ?_
  rintro e w2 ⟨_, rfl, ⟨g5, rfl, hg5, hb5⟩, hg2⟩
  have hlt1 := hh1.cells.lt
  have hlow1 := HS.low hh1
  have hw1 := hg1.size
  go_wp2_with fail
  refine (write_h (l := []) w2 (some ⟨g5, 0, none⟩) 64 64 t1 (hh1.grew hg2) HL1.out (Grew.trans hg1 hg2).size (fun w' hu => by
    have h := (hb5.upd hu (fun hS => hS.elim (fun e => by omega) (fun e => by simp [Value.ownBlock] at e))).C (by rw [HL1.out]; omega)
    rw [HL1.out] at h; exact h) (Nat.le_refl _) (by simp) HB1.out).mono ?_
  rintro e w3 ⟨_, rfl, ⟨rfl, rv3, hh3, hf3⟩, hu3⟩
  rw [List.nil_append] at hh3
  have hg3 : Grew w w3 := Below.trans (Grew.trans hg1 hg2) (hu3.below (Grew.trans hg1 hg2).size hlow1)
  have hlow3 := HS.low hh3
  go_wp2_with fail
  refine (write_h (Lib.bytesWorld w3 5 M) (some ⟨w3.heap.size, 0, none⟩) (grownCap w3 nm 0 5) nm m (hh3.grew (hbw w3 M)) HNM.out.symm (Nat.le_trans hg3.size (hbw w3 M).size) (fun w' hu => C_upd (C_of (HRM.out w3)) hu (fun ad hA hS => by
    obtain rfl := Option.some.inj hA
    rcases hS with e | e
    · have := hh3.cells.lt; simp only at e; omega
    · have := own_lt hh3.row _ e; simp only at this; omega)) (grownCap_ge _ _ _ _) (by rw [HL1.out]; omega) HM.out).mono ?_
  rintro e w4 ⟨_, rfl, ⟨rfl, rv4, hh4, hf4⟩, hu4⟩
  have hg3b := Grew.trans hg3 (hbw w3 M)
  have hg4 : Grew w w4 := Below.trans hg3b (hu4.below hg3b.size hlow3)
  have hlow4 := HS.low hh4
  have hlt4 := hh4.cells.lt
  have hrlt4 := own_lt hh4.row
  go_wp2_with fail
  refine (new_h w4).mono ?_
  rintro e w5 ⟨_, rfl, ⟨g', rfl, hh5⟩, hg5'⟩
  have hne : g ≠ g' := by have := hh5.low; omega
  go_wp2_with fail
  refine (HT2.out w5).mono ?_
  rintro e w6 ⟨_, rfl, ⟨g6, rfl, hg6, hb6⟩, hgr6⟩
  have hlt5 := hh5.cells.lt
  have hlow5 := HS.low hh5
  go_wp2_with fail
  refine (write_h (l := []) w6 (some ⟨g6, 0, none⟩) 64 64 t2 (hh5.grew hgr6) HL2.out (Grew.trans hg5' hgr6).size (fun w' hu => by
    have h := (hb6.upd hu (fun hS => hS.elim (fun e => by omega) (fun e => by simp [Value.ownBlock] at e))).C (by rw [HL2.out]; omega)
    rw [HL2.out] at h; exact h) (Nat.le_refl _) (by simp) HB2.out).mono ?_
  rintro e w7 ⟨_, rfl, ⟨rfl, rv7, hh7, hf7⟩, hu7⟩
  rw [List.nil_append] at hh7
  have hg46 := Grew.trans hg5' hgr6
  have hh47 := (hh4.grew hg46).upd hu7 (fun j hj hS => by
    have hj4 : j < w4.heap.size := hj.elim (fun e => by omega) (fun e => hrlt4 j e)
    have := hlow5 j hS
    omega)
  have hg7 : Grew w w7 := Below.trans (Grew.trans hg4 hg46) (hu7.below (Grew.trans hg4 hg46).size (fun j hj => Nat.le_trans hg4.size (hlow5 j hj)))
  have hlow7 := HS.low hh7
  have hs1 := sum_c w7 hh47 (by rw [List.length_append, HL1.out, ← HNM.out]; omega)
  rw [← HDe.out, ← HDS.out] at hs1
  have HS1 := Lib.hid hs1
  clear hs1
  go_wp2_with fail
  refine HS1.out.mono ?_
  rintro e w8 ⟨_, rfl, rfl, hg8⟩
  go_wp2_with fail
  have hg78 := Grew.trans hg8 (hbw w8 DS)
  refine (write_h (Lib.bytesWorld w8 5 DS) (some ⟨w8.heap.size, 0, none⟩) (grownCap w8 32 0 5) 32 D (hh7.grew hg78) HDL.out (Nat.le_trans (Nat.le_trans (Nat.le_refl _) (Nat.le_trans hg46.size hu7.size)) hg78.size) (fun w' hu => C_upd (C_of (HRD.out w8)) hu (fun ad hA hS => by
    obtain rfl := Option.some.inj hA
    have h8 := hg8.size
    rcases hS with e | e
    · have := hh7.cells.lt; simp only at e; omega
    · have := own_lt hh7.row _ e; simp only at this; omega)) (grownCap_ge _ _ _ _) (by rw [HL2.out]; omega) HDB.out).mono ?_
  rintro e w9 ⟨_, rfl, ⟨rfl, rv9, hh9, hf9⟩, hu9⟩
  have hg9 : Grew w w9 := Below.trans (Grew.trans hg7 hg78) (hu9.below (Grew.trans hg7 hg78).size (fun j hj => Nat.le_trans hg4.size (hlow7 j hj)))
  have HS9 := Lib.hid (sum_c w9 hh9 (by rw [List.length_append, HL2.out, HDL.out]; omega))
  go_wp2_with fail
  refine HS9.out.mono ?_
  rintro e w10 ⟨_, rfl, rfl, hg10⟩
  go_wp2_with fail
  go_ret
  exact ⟨_, rfl, rfl, Grew.trans hg9 hg10⟩
set_option maxHeartbeats 4000000 in
theorem rseal_c (w : World) (k m : List Int) (hk : bytes8' k) (hm : bytes8' m) (hkl : k.length ≤ 100000000) (hml : m.length ≤ 100000000) :
    Calls Try.prog 48 #[.string (strOfNums k), .string (strOfNums m)] w (Tells w (Is (.string (strOfNums (sealL k m))))) := by
  obtain ⟨t1, ht1⟩ : ∃ t1, t1 = turnedL k 54 := ⟨_, rfl⟩
  obtain ⟨t2, ht2⟩ : ∃ t2, t2 = turnedL k 92 := ⟨_, rfl⟩
  have hl1 : t1.length = 64 := by rw [ht1]; exact turnedL_len _ _
  have hl2 : t2.length = 64 := by rw [ht2]; exact turnedL_len _ _
  have hb1 : bytes8' t1 := by rw [ht1]; exact turnedL_bytes _ _
  have hb2 : bytes8' t2 := by rw [ht2]; exact turnedL_bytes _ _
  have h1 := fun w => rturned_c w k 54 hk (by omega)
  have h2 := fun w => rturned_c w k 92 hk (by omega)
  rw [← ht1] at h1
  rw [← ht2] at h2
  have ha : ∀ (a b : List Int), bytes8' a → bytes8' b → bytes8' (a ++ b) := fun a b h1 h2 y hy => (List.mem_append.1 hy).elim (h1 y) (h2 y)
  have h3 := fun w => rsum_c w (t1 ++ m) (by rw [List.length_append]; omega) (ha _ _ hb1 hm)
  have h4 := fun w => rsum_c w (t2 ++ shaL (t1 ++ m)) (by rw [List.length_append, shaL_len]; omega) (ha _ _ hb2 (shaL_bytes _))
  have hseal : sealL k m = shaL (t2 ++ shaL (t1 ++ m)) := by rw [ht1, ht2]; rfl
  rw [hseal]
  obtain ⟨K, hK⟩ : ∃ K, K = strOfNums k := ⟨_, rfl⟩
  obtain ⟨M, hM⟩ : ∃ M, M = strOfNums m := ⟨_, rfl⟩
  obtain ⟨T1, hT1⟩ : ∃ T1, T1 = strOfNums t1 := ⟨_, rfl⟩
  obtain ⟨T2, hT2⟩ : ∃ T2, T2 = strOfNums t2 := ⟨_, rfl⟩
  obtain ⟨D, hD⟩ : ∃ D, D = strOfNums (shaL (t1 ++ m)) := ⟨_, rfl⟩
  obtain ⟨X1, hX1⟩ : ∃ X1, X1 = strOfNums (t1 ++ m) := ⟨_, rfl⟩
  obtain ⟨X2, hX2⟩ : ∃ X2, X2 = strOfNums (t2 ++ shaL (t1 ++ m)) := ⟨_, rfl⟩
  have a1 : T1 ++ M = X1 := by rw [hT1, hM, hX1, str_append]
  have a2 : T2 ++ D = X2 := by rw [hT2, hD, hX2, str_append]
  have z1 : ¬ (9223372036854775807 < T1.size + M.size) := by rw [hT1, hM, str_size, str_size]; omega
  have z2 : ¬ (9223372036854775807 < T2.size + D.size) := by rw [hT2, hD, str_size, str_size, shaL_len]; omega
  rw [← hT1] at h1
  rw [← hT2] at h2
  rw [← hX1, ← hD] at h3
  rw [← hX2] at h4
  rw [← hK] at h1 h2
  rw [← hK, ← hM]
  have H1 := Lib.hid h1
  have H2 := Lib.hid h2
  have H3 := Lib.hid h3
  have H4 := Lib.hid h4
  clear h1 h2 h3 h4 hK hM hT1 hT2 hD hX1 hX2 hl1 hl2 hb1 hb2 ht1 ht2 hk hm hseal
  go_enter Try.func48, Try.ntmps48
  go_wp2_with fail
  refine (H2.out w).mono ?_
  rintro e w1 ⟨_, rfl, rfl, hg1⟩
  go_wp2_with fail
  refine (H1.out w1).mono ?_
  rintro e w2 ⟨_, rfl, rfl, hg2⟩
  go_wp2_with fail
  refine (H3.out w2).mono ?_
  rintro e w3 ⟨_, rfl, rfl, hg3⟩
  go_wp2_with fail
  refine (H4.out w3).mono ?_
  rintro e w4 ⟨_, rfl, rfl, hg4⟩
  go_wp2_with fail
  go_ret
  exact ⟨_, rfl, rfl, Grew.trans (Grew.trans (Grew.trans hg1 hg2) hg3) hg4⟩
end Go.Proofs.Ytmifoihfpjomaaa.F

-- NumG
namespace Go.Proofs.Ytmifoihfpjomaaa.F
open Go Go.RowKit Go.Proofs.YtmifoihfpjomaaaW.PrintWords Go.Proofs.YtmifoihfpjomaaaW.PrintLast Go.Proofs.YtmifoihfpjomaaaW.PrintMore Go.Proofs.YtmifoihfpjomaaaM Go.Proofs.YtmifoihfpjomaaaR
set_option linter.unusedSimpArgs false
set_option linter.unusedVariables false
theorem u64_wraps (n : Int) (h₀ : 0 ≤ n) (h₁ : n < 2 ^ 64) : IntKind.u64.wrap n = n := by rw [u64_wrap]; omega
theorem bytesOf_byte (s : ByteArray) : ∀ x ∈ bytesOf s, 0 ≤ x ∧ x < 256 := by
  intro x hx
  obtain ⟨b, _, rfl⟩ := List.mem_map.1 hx
  have := b.toNat_lt
  omega
end Go.Proofs.Ytmifoihfpjomaaa.F

-- F47
namespace Go.Proofs.Ytmifoihfpjomaaa.F
open Go.RowKit Go.Proofs.YtmifoihfpjomaaaW.PrintWords Go.Proofs.YtmifoihfpjomaaaW.PrintLast Go.Proofs.YtmifoihfpjomaaaW.PrintMore
attribute [local go_sem] max2_int min2_int max_two min_two max_three min_three max_four min_four   -- for this text's walks alone
set_option linter.unusedVariables false
set_option linter.unusedSimpArgs false

/-! ### num_PutText: function 47 -/
def num_PutText.f (k : Nat) (l0 : List Int) (a1 : ByteArray) : Option (List Int) := (num_own.f l0).bind fun t148 => ((num_lay.f k t148 (IntKind.u64.wrap ((a1.size : Int)))).bind fun t151 => (if t151.length + a1.size < 140737488355328 then (some (t151 ++ bytesOf a1)) else (none)))
set_option maxHeartbeats 8000000 in
set_option maxRecDepth 100000 in
theorem num_PutText.calls (k : Nat) (A0 : Option Addr) (c0 : Nat) (l0 : List Int) (a1 : ByteArray) (r : List Int) (w : World) (hr0 : Kd.C (Kd.int .u8) w A0 l0.length l0) (hc0 : l0.length ≤ c0) (h : num_PutText.f k l0 a1 = some r) :
    Calls Try.prog 47 #[.slice A0 l0.length c0, .string a1] w fun e w' => ∃ v0_ : Value, e = .returned (v0_) ∧ Kd.R (Kd.int .u8) 5 w' w.heap.size (fun _ => True) v0_ r ∧ Below w.heap.size w w' := by
  have HR0 := Aside0.mk hr0
  have HC0 := Aside0.mk hc0
  clear hr0 hc0
  have HB := Aside0.mk (Below.refl w.heap.size w)
  have H : ((num_own.f l0).bind fun t148 => ((num_lay.f k t148 (IntKind.u64.wrap ((a1.size : Int)))).bind fun t151 => (if t151.length + a1.size < 140737488355328 then (some (t151 ++ bytesOf a1)) else (none)))) = some r := h
  clear h
  replace H := Option.bind_eq_some_iff.mp H
  obtain ⟨t148, A30, H⟩ := H
  replace H : ((num_lay.f k t148 (IntKind.u64.wrap ((a1.size : Int)))).bind fun t151 => (if t151.length + a1.size < 140737488355328 then (some (t151 ++ bytesOf a1)) else (none))) = some r := H
  have A3 := Aside0.mk A30
  clear A30
  replace H := Option.bind_eq_some_iff.mp H
  obtain ⟨t151, A40, H⟩ := H
  replace H : (if t151.length + a1.size < 140737488355328 then (some (t151 ++ bytesOf a1)) else (none)) = some r := H
  have A4 := Aside0.mk A40
  clear A40
  by_cases c5 : t151.length + a1.size < 140737488355328
  · rw [if_pos c5] at H
    have LMc5 := Aside0.mk c5
    clear c5
    obtain ⟨y154, hy154⟩ : ∃ y_ : List Int, y_ = (t151 ++ bytesOf a1) := ⟨_, rfl⟩
    replace H : (some y154) = some r := by first | (rw [hy154]; with_reducible exact H) | (have H2_ := (Option.bind_some _ _).symm.trans H; rw [hy154]; with_reducible exact H2_) | (have H2_ := (Option.bind_some _ _).symm.trans H; with_reducible exact H2_) | with_reducible exact H | (rw [hy154]; exact H) | exact H
    have Ny154 := Aside0.mk hy154
    clear hy154
    obtain rfl := Option.some.inj H
    go_enter Try.func47, Try.ntmps47
    go_wp2_with (first | ((with_reducible refine gate_callee (f := 59) rfl ?_); refine goesL_ (some 6) rfl rfl Try.func59 (by kernel_rfl) rfl #[.slice A0 l0.length c0] rfl (by (try simp only [List.map_toArray, List.map_cons, List.map_nil]); first | done | rfl | (simp only [List.length_drop, List.length_take]; rfl)) ?_; (with_reducible refine (num_own.calls _ _ l0 t148 _ ?side1 ?side2 A3.out).mono ?_); (case side1 => repeat (first | exact HR0.out | (with_reducible refine Kd.C_alloc ?_ _) | (with_reducible refine Kd.C_drewN ?_ _) | (with_reducible refine Kd.C_drew ?_))); (case side2 => exact HC0.out); rintro e w6 ⟨v149, rfl, ho0, hb⟩; refine ⟨_, rfl, ?_⟩; have n0_ := Aside0.mk (Kd.R_lower ho0 (below_size (by repeat (first | (with_reducible first | exact HB.out | apply below_alloc | apply pw_below_drewN | apply below_drew1) | exact HB.out)))); have n1_ := Aside0.mk (below_step (by repeat (first | (with_reducible first | exact HB.out | apply below_alloc | apply pw_below_drewN | apply below_drew1) | exact HB.out)) hb); clear HB; have HO150 := n0_; have HB := n1_; clear n0_ n1_; (try clear hb); (try clear hb2); (try clear hk); (try clear hi); (try clear ho0); obtain ⟨Ao7, co7, eo7⟩ := Kd.R_slice HO150.out; subst eo7) | ((with_reducible refine gate_callee (f := 58) rfl ?_); refine goesL_ (some 10) rfl rfl Try.func58 (by kernel_rfl) rfl #[.slice Ao7 t148.length co7, .int .u64 (IntKind.u64.wrap ((a1.size : Int)))] rfl (by (try simp only [List.map_toArray, List.map_cons, List.map_nil]); first | done | rfl | (simp only [List.length_drop, List.length_take]; rfl)) ?_; (with_reducible refine (num_lay.calls k (fun k_ => some k_ = (.slice Ao7 t148.length co7 : Value).ownBlock) (.slice Ao7 t148.length co7) t148 (IntKind.u64.wrap ((a1.size : Int))) t151 w _ ?side1 ?side2 A4.out).mono ?_); (case side1 => repeat (first | (with_reducible first | exact HB.out | apply below_alloc | apply pw_below_drewN | apply below_drew1) | exact HB.out)); (case side2 => exact Kd.R_tight rfl HO150.out); rintro e w8 ⟨v152, rfl, ho0, hb, hkp⟩; refine ⟨_, rfl, ?_⟩; have n0_ := Aside0.mk (Kd.R_mono (ok' := fun k_ => True) ho0 (fun k_ hk_ => trivial)); have n1_ := Aside0.mk (hb); clear HB; clear HO150; have HO153 := n0_; have HB := n1_; clear n0_ n1_; (try clear hb); (try clear hkp); (try clear ho0)) | (at_builtin; refine print_append_str (w0 := w) w.heap.size rfl (.tmp 10) _ 45 9 5 rfl Try.underlying45 Try.underlying9 info5 v152 t151 a1 rfl rfl ?aO ?aB ?aS ?aL ?_; (case aB => exact (by repeat (first | (with_reducible first | exact HB.out | apply below_alloc | apply pw_below_drewN | apply below_drew1) | exact HB.out))); (case aO => exact (Kd.own_of_R (by (with_reducible repeat (first | apply Kd.R_alloc | apply Kd.R_drewN | apply Kd.R_drew)); exact HO153.out))); (case aS => exact (below_size (by repeat (first | (with_reducible first | exact HB.out | apply below_alloc | apply pw_below_drewN | apply below_drew1) | exact HB.out)))); (case aL => have := LMc5.out; omega); intro v155 w9 ho0 hb hg; have ho := Kd.R_of_own (h1 := fun _ => rfl) (ok := fun _ => True) ho0 (fun _ _ => trivial); clear ho0; have hat := True.intro; rw [← Ny154.out] at ho; change Kd.R (Kd.int .u8) 5 w9 w.heap.size (fun _ => True) v155 y154 at ho; have n0_ := Aside0.mk (hb); have n1_ := Aside0.mk (ho); clear HB; clear HO153; have HB := n0_; have HO156 := n1_; clear n0_ n1_; clear ho hb hg hat))
    go_ret
    exact ⟨_, by first | rfl | (simp [errW_none, errW_some] <;> rfl) | (simp [*, errW_none, errW_some] <;> rfl), by (with_reducible repeat (first | apply Kd.R_alloc | apply Kd.R_drewN | apply Kd.R_drew)); exact HO156.out, by repeat (first | (with_reducible first | exact HB.out | apply below_alloc | apply pw_below_drewN | apply below_drew1) | exact HB.out)⟩
  · rw [if_neg c5] at H
    exact absurd H (by simp)

end Go.Proofs.Ytmifoihfpjomaaa.F

-- NumK
namespace Go.Proofs.Ytmifoihfpjomaaa.F
open Go Go.RowKit Go.Proofs.YtmifoihfpjomaaaW.PrintWords Go.Proofs.YtmifoihfpjomaaaW.PrintLast Go.Proofs.YtmifoihfpjomaaaW.PrintMore Go.Proofs.YtmifoihfpjomaaaM Go.Proofs.YtmifoihfpjomaaaR
attribute [local go_sem] max2_int min2_int max_two min_two
set_option linter.unusedSimpArgs false
set_option linter.unusedVariables false
set_option maxRecDepth 100000
theorem strN_extract (s : ByteArray) (i j : Nat) (hj : j ≤ s.size) : s.extract i j = strOfNums (((bytesOf s).take j).drop i) := by
  apply ByteArray.ext
  apply Array.toList_inj.1
  have e : ∀ l : List UInt8, List.map (fun z : Int => UInt8.ofNat z.toNat) (l.map fun b => (b.toNat : Int)) = l := by
    intro l; simp [Function.comp_def]
  unfold strOfNums bytesOf
  rw [← List.map_take, ← List.map_drop]
  simp [ByteArray.data_extract, List.drop_take]
  rw [← List.map_map, e]
theorem str_bytesOf (s : ByteArray) : strOfNums (bytesOf s) = s := by
  have := strN_extract s 0 s.size (Nat.le_refl _)
  rw [List.drop_zero, List.take_of_length_le (by rw [bytesOf_length]; exact Nat.le_refl _)] at this
  rw [← this]; simp
/-- a text's bytes -/
def textL (s : ByteArray) : List Int := putL s.size ++ bytesOf s
theorem rtext_c (s : ByteArray) (w : World) (hs : s.size ≤ 140737488351232) :
    Calls Try.prog 40 #[.string s] w (Tells w (Is (.string (strOfNums (putL s.size) ++ s)))) := by
  have h1 : ¬ (9223372036854775807 < (strOfNums (putL s.size)).size + s.size) := by rw [str_size]; have := putL_ten (n := s.size) (by omega); omega
  go_enter Try.func40, Try.ntmps40
  go_wp2_with fail
  refine (rput_c s.size _ (by omega)).mono ?_
  rintro e w2 ⟨_, rfl, rfl, hg2⟩
  go_wp2_with fail
  go_ret
  exact ⟨_, rfl, rfl, hg2⟩
end Go.Proofs.Ytmifoihfpjomaaa.F

-- F31
namespace Go.Proofs.Ytmifoihfpjomaaa.F
open Go.RowKit Go.Proofs.YtmifoihfpjomaaaW.PrintWords Go.Proofs.YtmifoihfpjomaaaW.PrintLast Go.Proofs.YtmifoihfpjomaaaW.PrintMore
attribute [local go_sem] max2_int min2_int max_two min_two max_three min_three max_four min_four   -- for this text's walks alone
set_option linter.unusedVariables false
set_option linter.unusedSimpArgs false

/-! ### audit_good: function 31 -/
def audit_good.f (a0_0 : Int) (a0_1 : Int) (a0_2 : Int) (a0_3 : ByteArray) (a0_4 : Int) : Option (Bool) := if a0_0 ≥ 1 then (if a0_0 ≤ 2147483648 then (if a0_1 ≥ 0 then (if a0_1 ≤ 1099511627776 then (if a0_2 ≥ 0 then (if a0_2 ≤ 100 then (if (a0_3.size : Int) ≤ 32 then (if a0_4 ≥ 0 then (some (decide (a0_4 ≤ 100))) else (some false)) else (some false)) else (some false)) else (some false)) else (some false)) else (some false)) else (some false)) else (some false)
set_option maxHeartbeats 8000000 in
set_option maxRecDepth 100000 in
theorem audit_good.calls (a0_0 : Int) (a0_1 : Int) (a0_2 : Int) (a0_3 : ByteArray) (a0_4 : Int) (r : Bool) (w : World) (h : audit_good.f a0_0 a0_1 a0_2 a0_3 a0_4 = some r) :
    Calls Try.prog 31 #[.agg #[.int .i64 a0_0, .int .i64 a0_1, .int .i64 a0_2, .string a0_3, .int .i64 a0_4]] w fun e w' => e = .returned (.bool r) ∧ Below w.heap.size w w' := by
  have hu36 := Try.underlying36
  have HB := Aside0.mk (Below.refl w.heap.size w)
  have H : (if a0_0 ≥ 1 then (if a0_0 ≤ 2147483648 then (if a0_1 ≥ 0 then (if a0_1 ≤ 1099511627776 then (if a0_2 ≥ 0 then (if a0_2 ≤ 100 then (if (a0_3.size : Int) ≤ 32 then (if a0_4 ≥ 0 then (some (decide (a0_4 ≤ 100))) else (some false)) else (some false)) else (some false)) else (some false)) else (some false)) else (some false)) else (some false)) else (some false)) = some r := h
  clear h
  by_cases c2 : a0_0 ≥ 1
  · rw [if_pos c2] at H
    have c2b0 : decide (1 ≤ a0_0) = true := decide_eq_true c2
    clear c2
    by_cases c3 : a0_0 ≤ 2147483648
    · rw [if_pos c3] at H
      have c3b0 : decide (a0_0 ≤ 2147483648) = true := decide_eq_true c3
      clear c3
      by_cases c4 : a0_1 ≥ 0
      · rw [if_pos c4] at H
        have c4b0 : decide (0 ≤ a0_1) = true := decide_eq_true c4
        clear c4
        by_cases c5 : a0_1 ≤ 1099511627776
        · rw [if_pos c5] at H
          have c5b0 : decide (a0_1 ≤ 1099511627776) = true := decide_eq_true c5
          clear c5
          by_cases c6 : a0_2 ≥ 0
          · rw [if_pos c6] at H
            have c6b0 : decide (0 ≤ a0_2) = true := decide_eq_true c6
            clear c6
            by_cases c7 : a0_2 ≤ 100
            · rw [if_pos c7] at H
              have c7b0 : decide (a0_2 ≤ 100) = true := decide_eq_true c7
              clear c7
              by_cases c8 : (a0_3.size : Int) ≤ 32
              · rw [if_pos c8] at H
                have c8b0 : decide ((a0_3.size : Int) ≤ 32) = true := decide_eq_true c8
                have c8b1 : decide (a0_3.size ≤ 32) = true := decide_eq_true (by omega)
                clear c8
                by_cases c9 : a0_4 ≥ 0
                · rw [if_pos c9] at H
                  have c9b0 : decide (0 ≤ a0_4) = true := decide_eq_true c9
                  clear c9
                  obtain rfl := Option.some.inj H
                  go_enter Try.func31, Try.ntmps31
                  go_wp2_with (first | ((with_reducible refine gate_dst (N := 1) rfl ?_); (try (refine gate_guard (by rfl) ?_; dsimp only)); refine box_event ?hg (N := 1) ?hd (cs := #[.int .i64 a0_0, .int .i64 a0_1, .int .i64 a0_2, .string a0_3, .int .i64 a0_4]) (t := 36) ?hr ?_; (case hd => rfl); (case hg => rfl); (case hr => first | (go_simp; done) | (go_simp; rfl)); intro gb107 hg w10 hbox hb; have n0_ := Aside0.mk (below_step (by repeat (first | (with_reducible first | exact HB.out | apply below_alloc | apply pw_below_drewN | apply below_drew1) | exact HB.out)) hb); have n1_ := Aside0.mk (hbox); have n2_ := Aside0.mk ((by rw [hg]; exact (below_size (by repeat (first | (with_reducible first | exact HB.out | apply below_alloc | apply pw_below_drewN | apply below_drew1) | exact HB.out))) : w.heap.size ≤ gb107)); have n3_ := Aside0.mk ((by rw [hg]; exact (below_size (by repeat (first | (with_reducible first | exact HB.out | apply below_alloc | apply pw_below_drewN | apply below_drew1) | exact HB.out))) : w.heap.size ≤ gb107)); clear HB; have HB := n0_; have BK107 := n1_; have GW107 := n2_; have GE107 := n3_; clear n0_ n1_ n2_ n3_; clear hb hbox hg; have hcz11_0 : w10.cell? ⟨gb107, 0, none⟩ = some (.int .i64 a0_0) := (blk_cell BK107.out 0).trans rfl; have hcz11_1 : w10.cell? ⟨gb107, 1, none⟩ = some (.int .i64 a0_1) := (blk_cell BK107.out 1).trans rfl; have hcz11_2 : w10.cell? ⟨gb107, 2, none⟩ = some (.int .i64 a0_2) := (blk_cell BK107.out 2).trans rfl; have hcz11_3 : w10.cell? ⟨gb107, 3, none⟩ = some (.string a0_3) := (blk_cell BK107.out 3).trans rfl; have hcz11_4 : w10.cell? ⟨gb107, 4, none⟩ = some (.int .i64 a0_4) := (blk_cell BK107.out 4).trans rfl; have hfz11_0 := blk_frozen BK107.out 0; have hfz11_1 := blk_frozen BK107.out 1; have hfz11_2 := blk_frozen BK107.out 2; have hfz11_3 := blk_frozen BK107.out 3; have hfz11_4 := blk_frozen BK107.out 4))
                  go_ret
                  exact ⟨by first | rfl | (simp [errW_none, errW_some] <;> rfl) | (simp [*, errW_none, errW_some] <;> rfl), by repeat (first | (with_reducible first | exact HB.out | apply below_alloc | apply pw_below_drewN | apply below_drew1 | refine below_set ?_ GE107.out) | exact HB.out)⟩
                · rw [if_neg c9] at H
                  have c9b0 : decide (0 ≤ a0_4) = false := decide_eq_false c9
                  clear c9
                  obtain rfl := Option.some.inj H
                  go_enter Try.func31, Try.ntmps31
                  go_wp2_with (first | ((with_reducible refine gate_dst (N := 1) rfl ?_); (try (refine gate_guard (by rfl) ?_; dsimp only)); refine box_event ?hg (N := 1) ?hd (cs := #[.int .i64 a0_0, .int .i64 a0_1, .int .i64 a0_2, .string a0_3, .int .i64 a0_4]) (t := 36) ?hr ?_; (case hd => rfl); (case hg => rfl); (case hr => first | (go_simp; done) | (go_simp; rfl)); intro gb107 hg w12 hbox hb; have n0_ := Aside0.mk (below_step (by repeat (first | (with_reducible first | exact HB.out | apply below_alloc | apply pw_below_drewN | apply below_drew1) | exact HB.out)) hb); have n1_ := Aside0.mk (hbox); have n2_ := Aside0.mk ((by rw [hg]; exact (below_size (by repeat (first | (with_reducible first | exact HB.out | apply below_alloc | apply pw_below_drewN | apply below_drew1) | exact HB.out))) : w.heap.size ≤ gb107)); have n3_ := Aside0.mk ((by rw [hg]; exact (below_size (by repeat (first | (with_reducible first | exact HB.out | apply below_alloc | apply pw_below_drewN | apply below_drew1) | exact HB.out))) : w.heap.size ≤ gb107)); clear HB; have HB := n0_; have BK107 := n1_; have GW107 := n2_; have GE107 := n3_; clear n0_ n1_ n2_ n3_; clear hb hbox hg; have hcz13_0 : w12.cell? ⟨gb107, 0, none⟩ = some (.int .i64 a0_0) := (blk_cell BK107.out 0).trans rfl; have hcz13_1 : w12.cell? ⟨gb107, 1, none⟩ = some (.int .i64 a0_1) := (blk_cell BK107.out 1).trans rfl; have hcz13_2 : w12.cell? ⟨gb107, 2, none⟩ = some (.int .i64 a0_2) := (blk_cell BK107.out 2).trans rfl; have hcz13_3 : w12.cell? ⟨gb107, 3, none⟩ = some (.string a0_3) := (blk_cell BK107.out 3).trans rfl; have hcz13_4 : w12.cell? ⟨gb107, 4, none⟩ = some (.int .i64 a0_4) := (blk_cell BK107.out 4).trans rfl; have hfz13_0 := blk_frozen BK107.out 0; have hfz13_1 := blk_frozen BK107.out 1; have hfz13_2 := blk_frozen BK107.out 2; have hfz13_3 := blk_frozen BK107.out 3; have hfz13_4 := blk_frozen BK107.out 4))
                  go_ret
                  exact ⟨by first | rfl | (simp [errW_none, errW_some] <;> rfl) | (simp [*, errW_none, errW_some] <;> rfl), by repeat (first | (with_reducible first | exact HB.out | apply below_alloc | apply pw_below_drewN | apply below_drew1 | refine below_set ?_ GE107.out) | exact HB.out)⟩
              · rw [if_neg c8] at H
                have c8b0 : decide ((a0_3.size : Int) ≤ 32) = false := decide_eq_false c8
                have c8b1 : decide (a0_3.size ≤ 32) = false := decide_eq_false (by omega)
                clear c8
                obtain rfl := Option.some.inj H
                go_enter Try.func31, Try.ntmps31
                go_wp2_with (first | ((with_reducible refine gate_dst (N := 1) rfl ?_); (try (refine gate_guard (by rfl) ?_; dsimp only)); refine box_event ?hg (N := 1) ?hd (cs := #[.int .i64 a0_0, .int .i64 a0_1, .int .i64 a0_2, .string a0_3, .int .i64 a0_4]) (t := 36) ?hr ?_; (case hd => rfl); (case hg => rfl); (case hr => first | (go_simp; done) | (go_simp; rfl)); intro gb107 hg w14 hbox hb; have n0_ := Aside0.mk (below_step (by repeat (first | (with_reducible first | exact HB.out | apply below_alloc | apply pw_below_drewN | apply below_drew1) | exact HB.out)) hb); have n1_ := Aside0.mk (hbox); have n2_ := Aside0.mk ((by rw [hg]; exact (below_size (by repeat (first | (with_reducible first | exact HB.out | apply below_alloc | apply pw_below_drewN | apply below_drew1) | exact HB.out))) : w.heap.size ≤ gb107)); have n3_ := Aside0.mk ((by rw [hg]; exact (below_size (by repeat (first | (with_reducible first | exact HB.out | apply below_alloc | apply pw_below_drewN | apply below_drew1) | exact HB.out))) : w.heap.size ≤ gb107)); clear HB; have HB := n0_; have BK107 := n1_; have GW107 := n2_; have GE107 := n3_; clear n0_ n1_ n2_ n3_; clear hb hbox hg; have hcz15_0 : w14.cell? ⟨gb107, 0, none⟩ = some (.int .i64 a0_0) := (blk_cell BK107.out 0).trans rfl; have hcz15_1 : w14.cell? ⟨gb107, 1, none⟩ = some (.int .i64 a0_1) := (blk_cell BK107.out 1).trans rfl; have hcz15_2 : w14.cell? ⟨gb107, 2, none⟩ = some (.int .i64 a0_2) := (blk_cell BK107.out 2).trans rfl; have hcz15_3 : w14.cell? ⟨gb107, 3, none⟩ = some (.string a0_3) := (blk_cell BK107.out 3).trans rfl; have hcz15_4 : w14.cell? ⟨gb107, 4, none⟩ = some (.int .i64 a0_4) := (blk_cell BK107.out 4).trans rfl; have hfz15_0 := blk_frozen BK107.out 0; have hfz15_1 := blk_frozen BK107.out 1; have hfz15_2 := blk_frozen BK107.out 2; have hfz15_3 := blk_frozen BK107.out 3; have hfz15_4 := blk_frozen BK107.out 4))
                go_ret
                exact ⟨by first | rfl | (simp [errW_none, errW_some] <;> rfl) | (simp [*, errW_none, errW_some] <;> rfl), by repeat (first | (with_reducible first | exact HB.out | apply below_alloc | apply pw_below_drewN | apply below_drew1 | refine below_set ?_ GE107.out) | exact HB.out)⟩
            · rw [if_neg c7] at H
              have c7b0 : decide (a0_2 ≤ 100) = false := decide_eq_false c7
              clear c7
              obtain rfl := Option.some.inj H
              go_enter Try.func31, Try.ntmps31
              go_wp2_with (first | ((with_reducible refine gate_dst (N := 1) rfl ?_); (try (refine gate_guard (by rfl) ?_; dsimp only)); refine box_event ?hg (N := 1) ?hd (cs := #[.int .i64 a0_0, .int .i64 a0_1, .int .i64 a0_2, .string a0_3, .int .i64 a0_4]) (t := 36) ?hr ?_; (case hd => rfl); (case hg => rfl); (case hr => first | (go_simp; done) | (go_simp; rfl)); intro gb107 hg w16 hbox hb; have n0_ := Aside0.mk (below_step (by repeat (first | (with_reducible first | exact HB.out | apply below_alloc | apply pw_below_drewN | apply below_drew1) | exact HB.out)) hb); have n1_ := Aside0.mk (hbox); have n2_ := Aside0.mk ((by rw [hg]; exact (below_size (by repeat (first | (with_reducible first | exact HB.out | apply below_alloc | apply pw_below_drewN | apply below_drew1) | exact HB.out))) : w.heap.size ≤ gb107)); have n3_ := Aside0.mk ((by rw [hg]; exact (below_size (by repeat (first | (with_reducible first | exact HB.out | apply below_alloc | apply pw_below_drewN | apply below_drew1) | exact HB.out))) : w.heap.size ≤ gb107)); clear HB; have HB := n0_; have BK107 := n1_; have GW107 := n2_; have GE107 := n3_; clear n0_ n1_ n2_ n3_; clear hb hbox hg; have hcz17_0 : w16.cell? ⟨gb107, 0, none⟩ = some (.int .i64 a0_0) := (blk_cell BK107.out 0).trans rfl; have hcz17_1 : w16.cell? ⟨gb107, 1, none⟩ = some (.int .i64 a0_1) := (blk_cell BK107.out 1).trans rfl; have hcz17_2 : w16.cell? ⟨gb107, 2, none⟩ = some (.int .i64 a0_2) := (blk_cell BK107.out 2).trans rfl; have hcz17_3 : w16.cell? ⟨gb107, 3, none⟩ = some (.string a0_3) := (blk_cell BK107.out 3).trans rfl; have hcz17_4 : w16.cell? ⟨gb107, 4, none⟩ = some (.int .i64 a0_4) := (blk_cell BK107.out 4).trans rfl; have hfz17_0 := blk_frozen BK107.out 0; have hfz17_1 := blk_frozen BK107.out 1; have hfz17_2 := blk_frozen BK107.out 2; have hfz17_3 := blk_frozen BK107.out 3; have hfz17_4 := blk_frozen BK107.out 4))
              go_ret
              exact ⟨by first | rfl | (simp [errW_none, errW_some] <;> rfl) | (simp [*, errW_none, errW_some] <;> rfl), by repeat (first | (with_reducible first | exact HB.out | apply below_alloc | apply pw_below_drewN | apply below_drew1 | refine below_set ?_ GE107.out) | exact HB.out)⟩
          · rw [if_neg c6] at H
            have c6b0 : decide (0 ≤ a0_2) = false := decide_eq_false c6
            clear c6
            obtain rfl := Option.some.inj H
            go_enter Try.func31, Try.ntmps31
            go_wp2_with (first | ((with_reducible refine gate_dst (N := 1) rfl ?_); (try (refine gate_guard (by rfl) ?_; dsimp only)); refine box_event ?hg (N := 1) ?hd (cs := #[.int .i64 a0_0, .int .i64 a0_1, .int .i64 a0_2, .string a0_3, .int .i64 a0_4]) (t := 36) ?hr ?_; (case hd => rfl); (case hg => rfl); (case hr => first | (go_simp; done) | (go_simp; rfl)); intro gb107 hg w18 hbox hb; have n0_ := Aside0.mk (below_step (by repeat (first | (with_reducible first | exact HB.out | apply below_alloc | apply pw_below_drewN | apply below_drew1) | exact HB.out)) hb); have n1_ := Aside0.mk (hbox); have n2_ := Aside0.mk ((by rw [hg]; exact (below_size (by repeat (first | (with_reducible first | exact HB.out | apply below_alloc | apply pw_below_drewN | apply below_drew1) | exact HB.out))) : w.heap.size ≤ gb107)); have n3_ := Aside0.mk ((by rw [hg]; exact (below_size (by repeat (first | (with_reducible first | exact HB.out | apply below_alloc | apply pw_below_drewN | apply below_drew1) | exact HB.out))) : w.heap.size ≤ gb107)); clear HB; have HB := n0_; have BK107 := n1_; have GW107 := n2_; have GE107 := n3_; clear n0_ n1_ n2_ n3_; clear hb hbox hg; have hcz19_0 : w18.cell? ⟨gb107, 0, none⟩ = some (.int .i64 a0_0) := (blk_cell BK107.out 0).trans rfl; have hcz19_1 : w18.cell? ⟨gb107, 1, none⟩ = some (.int .i64 a0_1) := (blk_cell BK107.out 1).trans rfl; have hcz19_2 : w18.cell? ⟨gb107, 2, none⟩ = some (.int .i64 a0_2) := (blk_cell BK107.out 2).trans rfl; have hcz19_3 : w18.cell? ⟨gb107, 3, none⟩ = some (.string a0_3) := (blk_cell BK107.out 3).trans rfl; have hcz19_4 : w18.cell? ⟨gb107, 4, none⟩ = some (.int .i64 a0_4) := (blk_cell BK107.out 4).trans rfl; have hfz19_0 := blk_frozen BK107.out 0; have hfz19_1 := blk_frozen BK107.out 1; have hfz19_2 := blk_frozen BK107.out 2; have hfz19_3 := blk_frozen BK107.out 3; have hfz19_4 := blk_frozen BK107.out 4))
            go_ret
            exact ⟨by first | rfl | (simp [errW_none, errW_some] <;> rfl) | (simp [*, errW_none, errW_some] <;> rfl), by repeat (first | (with_reducible first | exact HB.out | apply below_alloc | apply pw_below_drewN | apply below_drew1 | refine below_set ?_ GE107.out) | exact HB.out)⟩
        · rw [if_neg c5] at H
          have c5b0 : decide (a0_1 ≤ 1099511627776) = false := decide_eq_false c5
          clear c5
          obtain rfl := Option.some.inj H
          go_enter Try.func31, Try.ntmps31
          go_wp2_with (first | ((with_reducible refine gate_dst (N := 1) rfl ?_); (try (refine gate_guard (by rfl) ?_; dsimp only)); refine box_event ?hg (N := 1) ?hd (cs := #[.int .i64 a0_0, .int .i64 a0_1, .int .i64 a0_2, .string a0_3, .int .i64 a0_4]) (t := 36) ?hr ?_; (case hd => rfl); (case hg => rfl); (case hr => first | (go_simp; done) | (go_simp; rfl)); intro gb107 hg w20 hbox hb; have n0_ := Aside0.mk (below_step (by repeat (first | (with_reducible first | exact HB.out | apply below_alloc | apply pw_below_drewN | apply below_drew1) | exact HB.out)) hb); have n1_ := Aside0.mk (hbox); have n2_ := Aside0.mk ((by rw [hg]; exact (below_size (by repeat (first | (with_reducible first | exact HB.out | apply below_alloc | apply pw_below_drewN | apply below_drew1) | exact HB.out))) : w.heap.size ≤ gb107)); have n3_ := Aside0.mk ((by rw [hg]; exact (below_size (by repeat (first | (with_reducible first | exact HB.out | apply below_alloc | apply pw_below_drewN | apply below_drew1) | exact HB.out))) : w.heap.size ≤ gb107)); clear HB; have HB := n0_; have BK107 := n1_; have GW107 := n2_; have GE107 := n3_; clear n0_ n1_ n2_ n3_; clear hb hbox hg; have hcz21_0 : w20.cell? ⟨gb107, 0, none⟩ = some (.int .i64 a0_0) := (blk_cell BK107.out 0).trans rfl; have hcz21_1 : w20.cell? ⟨gb107, 1, none⟩ = some (.int .i64 a0_1) := (blk_cell BK107.out 1).trans rfl; have hcz21_2 : w20.cell? ⟨gb107, 2, none⟩ = some (.int .i64 a0_2) := (blk_cell BK107.out 2).trans rfl; have hcz21_3 : w20.cell? ⟨gb107, 3, none⟩ = some (.string a0_3) := (blk_cell BK107.out 3).trans rfl; have hcz21_4 : w20.cell? ⟨gb107, 4, none⟩ = some (.int .i64 a0_4) := (blk_cell BK107.out 4).trans rfl; have hfz21_0 := blk_frozen BK107.out 0; have hfz21_1 := blk_frozen BK107.out 1; have hfz21_2 := blk_frozen BK107.out 2; have hfz21_3 := blk_frozen BK107.out 3; have hfz21_4 := blk_frozen BK107.out 4))
          go_ret
          exact ⟨by first | rfl | (simp [errW_none, errW_some] <;> rfl) | (simp [*, errW_none, errW_some] <;> rfl), by repeat (first | (with_reducible first | exact HB.out | apply below_alloc | apply pw_below_drewN | apply below_drew1 | refine below_set ?_ GE107.out) | exact HB.out)⟩
      · rw [if_neg c4] at H
        have c4b0 : decide (0 ≤ a0_1) = false := decide_eq_false c4
        clear c4
        obtain rfl := Option.some.inj H
        go_enter Try.func31, Try.ntmps31
        go_wp2_with (first | ((with_reducible refine gate_dst (N := 1) rfl ?_); (try (refine gate_guard (by rfl) ?_; dsimp only)); refine box_event ?hg (N := 1) ?hd (cs := #[.int .i64 a0_0, .int .i64 a0_1, .int .i64 a0_2, .string a0_3, .int .i64 a0_4]) (t := 36) ?hr ?_; (case hd => rfl); (case hg => rfl); (case hr => first | (go_simp; done) | (go_simp; rfl)); intro gb107 hg w22 hbox hb; have n0_ := Aside0.mk (below_step (by repeat (first | (with_reducible first | exact HB.out | apply below_alloc | apply pw_below_drewN | apply below_drew1) | exact HB.out)) hb); have n1_ := Aside0.mk (hbox); have n2_ := Aside0.mk ((by rw [hg]; exact (below_size (by repeat (first | (with_reducible first | exact HB.out | apply below_alloc | apply pw_below_drewN | apply below_drew1) | exact HB.out))) : w.heap.size ≤ gb107)); have n3_ := Aside0.mk ((by rw [hg]; exact (below_size (by repeat (first | (with_reducible first | exact HB.out | apply below_alloc | apply pw_below_drewN | apply below_drew1) | exact HB.out))) : w.heap.size ≤ gb107)); clear HB; have HB := n0_; have BK107 := n1_; have GW107 := n2_; have GE107 := n3_; clear n0_ n1_ n2_ n3_; clear hb hbox hg; have hcz23_0 : w22.cell? ⟨gb107, 0, none⟩ = some (.int .i64 a0_0) := (blk_cell BK107.out 0).trans rfl; have hcz23_1 : w22.cell? ⟨gb107, 1, none⟩ = some (.int .i64 a0_1) := (blk_cell BK107.out 1).trans rfl; have hcz23_2 : w22.cell? ⟨gb107, 2, none⟩ = some (.int .i64 a0_2) := (blk_cell BK107.out 2).trans rfl; have hcz23_3 : w22.cell? ⟨gb107, 3, none⟩ = some (.string a0_3) := (blk_cell BK107.out 3).trans rfl; have hcz23_4 : w22.cell? ⟨gb107, 4, none⟩ = some (.int .i64 a0_4) := (blk_cell BK107.out 4).trans rfl; have hfz23_0 := blk_frozen BK107.out 0; have hfz23_1 := blk_frozen BK107.out 1; have hfz23_2 := blk_frozen BK107.out 2; have hfz23_3 := blk_frozen BK107.out 3; have hfz23_4 := blk_frozen BK107.out 4))
        go_ret
        exact ⟨by first | rfl | (simp [errW_none, errW_some] <;> rfl) | (simp [*, errW_none, errW_some] <;> rfl), by repeat (first | (with_reducible first | exact HB.out | apply below_alloc | apply pw_below_drewN | apply below_drew1 | refine below_set ?_ GE107.out) | exact HB.out)⟩
    · rw [if_neg c3] at H
      have c3b0 : decide (a0_0 ≤ 2147483648) = false := decide_eq_false c3
      clear c3
      obtain rfl := Option.some.inj H
      go_enter Try.func31, Try.ntmps31
      go_wp2_with (first | ((with_reducible refine gate_dst (N := 1) rfl ?_); (try (refine gate_guard (by rfl) ?_; dsimp only)); refine box_event ?hg (N := 1) ?hd (cs := #[.int .i64 a0_0, .int .i64 a0_1, .int .i64 a0_2, .string a0_3, .int .i64 a0_4]) (t := 36) ?hr ?_; (case hd => rfl); (case hg => rfl); (case hr => first | (go_simp; done) | (go_simp; rfl)); intro gb107 hg w24 hbox hb; have n0_ := Aside0.mk (below_step (by repeat (first | (with_reducible first | exact HB.out | apply below_alloc | apply pw_below_drewN | apply below_drew1) | exact HB.out)) hb); have n1_ := Aside0.mk (hbox); have n2_ := Aside0.mk ((by rw [hg]; exact (below_size (by repeat (first | (with_reducible first | exact HB.out | apply below_alloc | apply pw_below_drewN | apply below_drew1) | exact HB.out))) : w.heap.size ≤ gb107)); have n3_ := Aside0.mk ((by rw [hg]; exact (below_size (by repeat (first | (with_reducible first | exact HB.out | apply below_alloc | apply pw_below_drewN | apply below_drew1) | exact HB.out))) : w.heap.size ≤ gb107)); clear HB; have HB := n0_; have BK107 := n1_; have GW107 := n2_; have GE107 := n3_; clear n0_ n1_ n2_ n3_; clear hb hbox hg; have hcz25_0 : w24.cell? ⟨gb107, 0, none⟩ = some (.int .i64 a0_0) := (blk_cell BK107.out 0).trans rfl; have hcz25_1 : w24.cell? ⟨gb107, 1, none⟩ = some (.int .i64 a0_1) := (blk_cell BK107.out 1).trans rfl; have hcz25_2 : w24.cell? ⟨gb107, 2, none⟩ = some (.int .i64 a0_2) := (blk_cell BK107.out 2).trans rfl; have hcz25_3 : w24.cell? ⟨gb107, 3, none⟩ = some (.string a0_3) := (blk_cell BK107.out 3).trans rfl; have hcz25_4 : w24.cell? ⟨gb107, 4, none⟩ = some (.int .i64 a0_4) := (blk_cell BK107.out 4).trans rfl; have hfz25_0 := blk_frozen BK107.out 0; have hfz25_1 := blk_frozen BK107.out 1; have hfz25_2 := blk_frozen BK107.out 2; have hfz25_3 := blk_frozen BK107.out 3; have hfz25_4 := blk_frozen BK107.out 4))
      go_ret
      exact ⟨by first | rfl | (simp [errW_none, errW_some] <;> rfl) | (simp [*, errW_none, errW_some] <;> rfl), by repeat (first | (with_reducible first | exact HB.out | apply below_alloc | apply pw_below_drewN | apply below_drew1 | refine below_set ?_ GE107.out) | exact HB.out)⟩
  · rw [if_neg c2] at H
    have c2b0 : decide (1 ≤ a0_0) = false := decide_eq_false c2
    clear c2
    obtain rfl := Option.some.inj H
    go_enter Try.func31, Try.ntmps31
    go_wp2_with (first | ((with_reducible refine gate_dst (N := 1) rfl ?_); (try (refine gate_guard (by rfl) ?_; dsimp only)); refine box_event ?hg (N := 1) ?hd (cs := #[.int .i64 a0_0, .int .i64 a0_1, .int .i64 a0_2, .string a0_3, .int .i64 a0_4]) (t := 36) ?hr ?_; (case hd => rfl); (case hg => rfl); (case hr => first | (go_simp; done) | (go_simp; rfl)); intro gb107 hg w26 hbox hb; have n0_ := Aside0.mk (below_step (by repeat (first | (with_reducible first | exact HB.out | apply below_alloc | apply pw_below_drewN | apply below_drew1) | exact HB.out)) hb); have n1_ := Aside0.mk (hbox); have n2_ := Aside0.mk ((by rw [hg]; exact (below_size (by repeat (first | (with_reducible first | exact HB.out | apply below_alloc | apply pw_below_drewN | apply below_drew1) | exact HB.out))) : w.heap.size ≤ gb107)); have n3_ := Aside0.mk ((by rw [hg]; exact (below_size (by repeat (first | (with_reducible first | exact HB.out | apply below_alloc | apply pw_below_drewN | apply below_drew1) | exact HB.out))) : w.heap.size ≤ gb107)); clear HB; have HB := n0_; have BK107 := n1_; have GW107 := n2_; have GE107 := n3_; clear n0_ n1_ n2_ n3_; clear hb hbox hg; have hcz27_0 : w26.cell? ⟨gb107, 0, none⟩ = some (.int .i64 a0_0) := (blk_cell BK107.out 0).trans rfl; have hcz27_1 : w26.cell? ⟨gb107, 1, none⟩ = some (.int .i64 a0_1) := (blk_cell BK107.out 1).trans rfl; have hcz27_2 : w26.cell? ⟨gb107, 2, none⟩ = some (.int .i64 a0_2) := (blk_cell BK107.out 2).trans rfl; have hcz27_3 : w26.cell? ⟨gb107, 3, none⟩ = some (.string a0_3) := (blk_cell BK107.out 3).trans rfl; have hcz27_4 : w26.cell? ⟨gb107, 4, none⟩ = some (.int .i64 a0_4) := (blk_cell BK107.out 4).trans rfl; have hfz27_0 := blk_frozen BK107.out 0; have hfz27_1 := blk_frozen BK107.out 1; have hfz27_2 := blk_frozen BK107.out 2; have hfz27_3 := blk_frozen BK107.out 3; have hfz27_4 := blk_frozen BK107.out 4))
    go_ret
    exact ⟨by first | rfl | (simp [errW_none, errW_some] <;> rfl) | (simp [*, errW_none, errW_some] <;> rfl), by repeat (first | (with_reducible first | exact HB.out | apply below_alloc | apply pw_below_drewN | apply below_drew1 | refine below_set ?_ GE107.out) | exact HB.out)⟩

end Go.Proofs.Ytmifoihfpjomaaa.F

-- F15
namespace Go.Proofs.Ytmifoihfpjomaaa.F
open Go.RowKit Go.Proofs.YtmifoihfpjomaaaW.PrintWords Go.Proofs.YtmifoihfpjomaaaW.PrintLast Go.Proofs.YtmifoihfpjomaaaW.PrintMore
attribute [local go_sem] max2_int min2_int max_two min_two max_three min_three max_four min_four   -- for this text's walks alone
set_option linter.unusedVariables false
set_option linter.unusedSimpArgs false

/-! ### audit_May: function 15 -/
mutual
def audit_May.j0 : Nat → Bool → ByteArray → Int → List (S36) → Option (Bool)
  | 0, _, _, _, _ => none
  | k + 1, x27, x109000, x109001, x109002 => if x27 = true then (some false) else (audit_May.l0 k x109002 (x109002.length : Int) 0 x109000 x109001 x109002)
def audit_May.l0 : Nat → List (S36) → Int → Int → ByteArray → Int → List (S36) → Option (Bool)
  | 0, _, _, _, _, _, _ => none
  | k + 1, x29, x30, x31, x109000, x109001, x109002 => if x31 < x30 then (if 0 ≤ x31 then (if x31 < (x29.length : Int) then ((audit_good.f ((rd_T36 x29 x31).f0) ((rd_T36 x29 x31).f1) ((rd_T36 x29 x31).f2) ((rd_T36 x29 x31).f3) ((rd_T36 x29 x31).f4)).bind fun t111 => (if t111 = true then (if ((rd_T36 x29 x31).f0) = (wrap64 ((wrap64 ((wrap64 (x109001 - (x109002.length : Int))) + x31)) + 1)) then (audit_May.l0 k x29 x30 (wrap64 (x31 + 1)) x109000 x109001 x109002) else (some false)) else (some false))) else (none)) else (none)) else (some true)
end
def audit_May.f (k : Nat) (a0_0 : ByteArray) (a0_1 : Int) (l0_2 : List (S36)) : Option (Bool) := if (a0_0.size : Int) = 32 then (if a0_1 < 0 then (audit_May.j0 k true a0_0 a0_1 l0_2) else (if a0_1 > 2147483648 then (audit_May.j0 k true a0_0 a0_1 l0_2) else (audit_May.j0 k ((l0_2.length : Int) != (mn a0_1 8)) a0_0 a0_1 l0_2))) else (audit_May.j0 k true a0_0 a0_1 l0_2)
set_option maxHeartbeats 8000000 in
set_option maxRecDepth 100000 in
theorem audit_May.calls (k : Nat) (a0_0 : ByteArray) (a0_1 : Int) (A0_2 : Option Addr) (c0_2 : Nat) (l0_2 : List (S36)) (r : Bool) (w : World) (hr0_2 : Kd.C k36 w A0_2 l0_2.length l0_2) (hc0_2 : l0_2.length ≤ c0_2) (h : audit_May.f k a0_0 a0_1 l0_2 = some r) :
    Calls Try.prog 15 #[.agg #[.string a0_0, .int .i64 a0_1, .slice A0_2 l0_2.length c0_2]] w fun e w' => e = .returned (.bool r) ∧ Below w.heap.size w w' := by
  have hu27 := Try.underlying27
  have hu36 := Try.underlying36
  have HR0_2 := Aside0.mk hr0_2
  have HC0_2 := Aside0.mk hc0_2
  clear hr0_2 hc0_2
  have HB := Aside0.mk (Below.refl w.heap.size w)
  have H : (if (a0_0.size : Int) = 32 then (if a0_1 < 0 then (audit_May.j0 k true a0_0 a0_1 l0_2) else (if a0_1 > 2147483648 then (audit_May.j0 k true a0_0 a0_1 l0_2) else (audit_May.j0 k ((l0_2.length : Int) != (mn a0_1 8)) a0_0 a0_1 l0_2))) else (audit_May.j0 k true a0_0 a0_1 l0_2)) = some r := h
  clear h
  have HC2 := Aside0.mk H
  clear H
  go_enter Try.func15, Try.ntmps15
  go_upto_region 1 with (first | ((with_reducible refine gate_dst (N := 1) rfl ?_); (try (refine gate_guard (by rfl) ?_; dsimp only)); refine box_event ?hg (N := 1) ?hd (cs := #[.string a0_0, .int .i64 a0_1, .slice A0_2 l0_2.length c0_2]) (t := 27) ?hr ?_; (case hd => rfl); (case hg => rfl); (case hr => first | (go_simp; done) | (go_simp; rfl)); intro gb108 hg w3 hbox hb; have n0_ := Aside0.mk (below_step (by repeat (first | (with_reducible first | exact HB.out | apply below_alloc | apply pw_below_drewN | apply below_drew1) | exact HB.out)) hb); have n1_ := Aside0.mk (hbox); have n2_ := Aside0.mk ((by rw [hg]; exact (below_size (by repeat (first | (with_reducible first | exact HB.out | apply below_alloc | apply pw_below_drewN | apply below_drew1) | exact HB.out))) : w.heap.size ≤ gb108)); have n3_ := Aside0.mk ((by rw [hg]; exact (below_size (by repeat (first | (with_reducible first | exact HB.out | apply below_alloc | apply pw_below_drewN | apply below_drew1) | exact HB.out))) : w.heap.size ≤ gb108)); clear HB; have HB := n0_; have BK108 := n1_; have GW108 := n2_; have GE108 := n3_; clear n0_ n1_ n2_ n3_; clear hb hbox hg))
  (try simp only [Act.put, List.setIfInBounds_toArray, List.set_cons_zero, List.set_cons_succ])
  go_cut [27] (fun v27 wc => ∃ (kq : Nat) (x27_1 : Bool), v27 = .bool x27_1 ∧ Aside0 (audit_May.j0 kq x27_1 a0_0 a0_1 l0_2 = some r) ∧ Aside0 (kq ≤ k) ∧ Aside0 (wc.heap[gb108]? = some (.cells #[.string a0_0, .int .i64 a0_1, (.slice A0_2 l0_2.length c0_2)] 27 (0, 0))) ∧ Aside0 (Below w.heap.size w wc))
  case first =>
    have H := HC2.out
    clear HC2
    by_cases c4 : (a0_0.size : Int) = 32
    · rw [if_pos c4] at H
      have c4b0 : ((a0_0.size : Int) == 32) = true := beq_iff_eq.mpr c4
      have c4b1 : ((a0_0.size : Int) != 32) = false := bne_eq_false_iff_eq.mpr c4
      clear c4
      (first | rw [c4b0] | (simp only [i64_w, i32_w]; rw [c4b0]) | skip)
      by_cases c5 : a0_1 < 0
      · rw [if_pos c5] at H
        have c5b0 : decide (a0_1 < 0) = true := decide_eq_true c5
        clear c5
        have H' := Aside0.mk H
        clear H
        have hcz6_0 : w3.cell? ⟨gb108, 0, none⟩ = some (.string a0_0) := (blk_cell BK108.out 0).trans rfl
        have hcz6_1 : w3.cell? ⟨gb108, 1, none⟩ = some (.int .i64 a0_1) := (blk_cell BK108.out 1).trans rfl
        have hcz6_2 : w3.cell? ⟨gb108, 2, none⟩ = some (.slice A0_2 l0_2.length c0_2) := (blk_cell BK108.out 2).trans rfl
        have hfz6_0 := blk_frozen BK108.out 0
        have hfz6_1 := blk_frozen BK108.out 1
        have hfz6_2 := blk_frozen BK108.out 2
        go_wp2
        go_meet
        case rel => exact ⟨_, (true), (by first | rfl | (simp; done) | (simp [*]; done)), H', ⟨by first | omega | exact Nat.le_refl _⟩, ⟨by (with_reducible repeat (first | refine blk_drewN ?_ _ | refine blk_drew ?_ | refine blk_alloc ?_ _)); exact BK108.out⟩, ⟨by repeat (first | (with_reducible first | exact HB.out | apply below_alloc | apply pw_below_drewN | apply below_drew1 | refine below_set ?_ GE108.out) | exact HB.out)⟩⟩
      · rw [if_neg c5] at H
        have c5b0 : decide (a0_1 < 0) = false := decide_eq_false c5
        clear c5
        by_cases c7 : a0_1 > 2147483648
        · rw [if_pos c7] at H
          have c7b0 : decide (2147483648 < a0_1) = true := decide_eq_true c7
          clear c7
          have H' := Aside0.mk H
          clear H
          have hcz8_0 : w3.cell? ⟨gb108, 0, none⟩ = some (.string a0_0) := (blk_cell BK108.out 0).trans rfl
          have hcz8_1 : w3.cell? ⟨gb108, 1, none⟩ = some (.int .i64 a0_1) := (blk_cell BK108.out 1).trans rfl
          have hcz8_2 : w3.cell? ⟨gb108, 2, none⟩ = some (.slice A0_2 l0_2.length c0_2) := (blk_cell BK108.out 2).trans rfl
          have hfz8_0 := blk_frozen BK108.out 0
          have hfz8_1 := blk_frozen BK108.out 1
          have hfz8_2 := blk_frozen BK108.out 2
          go_wp2
          go_meet
          case rel => exact ⟨_, (true), (by first | rfl | (simp; done) | (simp [*]; done)), H', ⟨by first | omega | exact Nat.le_refl _⟩, ⟨by (with_reducible repeat (first | refine blk_drewN ?_ _ | refine blk_drew ?_ | refine blk_alloc ?_ _)); exact BK108.out⟩, ⟨by repeat (first | (with_reducible first | exact HB.out | apply below_alloc | apply pw_below_drewN | apply below_drew1 | refine below_set ?_ GE108.out) | exact HB.out)⟩⟩
        · rw [if_neg c7] at H
          have c7b0 : decide (2147483648 < a0_1) = false := decide_eq_false c7
          clear c7
          obtain ⟨ji9, hji9⟩ : ∃ j_ : Int, (mn a0_1 8) = j_ := ⟨_, rfl⟩
          replace H : (audit_May.j0 k ((l0_2.length : Int) != (ji9)) a0_0 a0_1 l0_2) = some r := by first | (rw [hji9] at H; exact H) | (simp only [hji9] at H ⊢; exact H)
          (try (have hji9h : ji9 ≤ 8 := by (rw [← hji9]; unfold mn; (repeat' split) <;> omega)))
          (try (have hji9g : ji9 ≤ 64 := by omega))
          have hji9_ : (if 8 < a0_1 then 8 else a0_1) = ji9 := hji9
          have H' := Aside0.mk H
          clear H
          have hcz10_0 : w3.cell? ⟨gb108, 0, none⟩ = some (.string a0_0) := (blk_cell BK108.out 0).trans rfl
          have hcz10_1 : w3.cell? ⟨gb108, 1, none⟩ = some (.int .i64 a0_1) := (blk_cell BK108.out 1).trans rfl
          have hcz10_2 : w3.cell? ⟨gb108, 2, none⟩ = some (.slice A0_2 l0_2.length c0_2) := (blk_cell BK108.out 2).trans rfl
          have hfz10_0 := blk_frozen BK108.out 0
          have hfz10_1 := blk_frozen BK108.out 1
          have hfz10_2 := blk_frozen BK108.out 2
          go_wp2
          go_meet
          case rel => exact ⟨_, (((l0_2.length : Int) != (ji9))), (by first | rfl | (simp; done) | (simp only [← hji9] <;> (first | rfl | simp)) | (simp [*]; done)), H', ⟨by first | omega | exact Nat.le_refl _⟩, ⟨by (with_reducible repeat (first | refine blk_drewN ?_ _ | refine blk_drew ?_ | refine blk_alloc ?_ _)); exact BK108.out⟩, ⟨by repeat (first | (with_reducible first | exact HB.out | apply below_alloc | apply pw_below_drewN | apply below_drew1 | refine below_set ?_ GE108.out) | exact HB.out)⟩⟩
    · rw [if_neg c4] at H
      have c4b0 : ((a0_0.size : Int) == 32) = false := beq_eq_false_iff_ne.mpr c4
      have c4b1 : ((a0_0.size : Int) != 32) = true := bne_iff_ne.mpr c4
      (first | rw [c4b0] | (simp only [i64_w, i32_w]; rw [c4b0]) | skip)
      have H' := Aside0.mk H
      clear H
      have hcz11_0 : w3.cell? ⟨gb108, 0, none⟩ = some (.string a0_0) := (blk_cell BK108.out 0).trans rfl
      have hcz11_1 : w3.cell? ⟨gb108, 1, none⟩ = some (.int .i64 a0_1) := (blk_cell BK108.out 1).trans rfl
      have hcz11_2 : w3.cell? ⟨gb108, 2, none⟩ = some (.slice A0_2 l0_2.length c0_2) := (blk_cell BK108.out 2).trans rfl
      have hfz11_0 := blk_frozen BK108.out 0
      have hfz11_1 := blk_frozen BK108.out 1
      have hfz11_2 := blk_frozen BK108.out 2
      go_wp2
      go_meet
      case rel => exact ⟨_, (true), (by first | rfl | (simp; done) | (simp [*]; done)), H', ⟨by first | omega | exact Nat.le_refl _⟩, ⟨by (with_reducible repeat (first | refine blk_drewN ?_ _ | refine blk_drew ?_ | refine blk_alloc ?_ _)); exact BK108.out⟩, ⟨by repeat (first | (with_reducible first | exact HB.out | apply below_alloc | apply pw_below_drewN | apply below_drew1 | refine below_set ?_ GE108.out) | exact HB.out)⟩⟩
  case rest =>
    clear HC2
    try clear c1
    try clear p2
    try clear c4
    try clear c4b0
    try clear c4b1
    try clear c5
    try clear c5b0
    try clear c7
    try clear c7b0
    try clear hcz10_0
    try clear hcz10_1
    try clear hcz10_2
    try clear hcz11_0
    try clear hcz11_1
    try clear hcz11_2
    try clear hcz6_0
    try clear hcz6_1
    try clear hcz6_2
    try clear hcz8_0
    try clear hcz8_1
    try clear hcz8_2
    try clear hfz10_0
    try clear hfz10_1
    try clear hfz10_2
    try clear hfz11_0
    try clear hfz11_1
    try clear hfz11_2
    try clear hfz6_0
    try clear hfz6_1
    try clear hfz6_2
    try clear hfz8_0
    try clear hfz8_1
    try clear hfz8_2
    obtain ⟨kq, x27_1, rfl, HA, HJ1, BK108, HB⟩ := hcut
    cases kq with
    | zero => exact absurd HA.out (by simp [audit_May.j0])
    | succ kj1 =>
      have H := HA.out
      clear HA
      simp only [audit_May.j0] at H
      by_cases c12 : x27_1 = true
      · subst c12
        have H1 : (some false) = some r := by rw [if_pos rfl] at H; exact H
        clear H
        have H := H1
        clear H1
        obtain rfl := Option.some.inj H
        go_wp2
        go_ret
        exact ⟨by first | rfl | (simp [errW_none, errW_some] <;> rfl) | (simp [*, errW_none, errW_some] <;> rfl), by repeat (first | (with_reducible first | exact HB.out | apply below_alloc | apply pw_below_drewN | apply below_drew1 | refine below_set ?_ GE108.out) | exact HB.out)⟩
      · replace c12 := Bool.eq_false_iff.mpr c12
        subst c12
        have H1 : (audit_May.l0 kj1 l0_2 (l0_2.length : Int) 0 a0_0 a0_1 l0_2) = some r := by rw [if_neg (show ¬ (false = true) by decide)] at H; exact H
        clear H
        have H := H1
        clear H1
        have H' := Aside0.mk H
        clear H
        have hcz13_0 : wc.cell? ⟨gb108, 0, none⟩ = some (.string a0_0) := (blk_cell BK108.out 0).trans rfl
        have hcz13_1 : wc.cell? ⟨gb108, 1, none⟩ = some (.int .i64 a0_1) := (blk_cell BK108.out 1).trans rfl
        have hcz13_2 : wc.cell? ⟨gb108, 2, none⟩ = some (.slice A0_2 l0_2.length c0_2) := (blk_cell BK108.out 2).trans rfl
        have hfz13_0 := blk_frozen BK108.out 0
        have hfz13_1 := blk_frozen BK108.out 1
        have hfz13_2 := blk_frozen BK108.out 2
        go_wp2
        go_loopg [31] kj1 (fun kq v31 w' => ∃ (x31_2 : Int), v31 = .int .i64 x31_2 ∧ Aside0 (audit_May.l0 kq l0_2 (l0_2.length : Int) x31_2 a0_0 a0_1 l0_2 = some r) ∧ Aside0 (kq ≤ kj1) ∧ Aside0 (w'.heap[gb108]? = some (.cells #[.string a0_0, .int .i64 a0_1, (.slice A0_2 l0_2.length c0_2)] 27 (0, 0))) ∧ Aside0 (Below w.heap.size w w'))
        case atStart => exact ⟨(0), (by first | rfl | (simp; done) | (simp [*]; done)), H', ⟨Nat.le_refl _⟩, ⟨by (with_reducible repeat (first | refine blk_drewN ?_ _ | refine blk_drew ?_ | refine blk_alloc ?_ _)); exact BK108.out⟩, ⟨by repeat (first | (with_reducible first | exact HB.out | apply below_alloc | apply pw_below_drewN | apply below_drew1 | refine below_set ?_ GE108.out) | exact HB.out)⟩⟩
        case round =>
          clear H'
          try clear c1
          try clear p2
          try clear c4
          try clear c4b0
          try clear c4b1
          try clear c5
          try clear c5b0
          try clear c7
          try clear c7b0
          try clear c12
          try clear hcz10_0
          try clear hcz10_1
          try clear hcz10_2
          try clear hcz11_0
          try clear hcz11_1
          try clear hcz11_2
          try clear hcz13_0
          try clear hcz13_1
          try clear hcz13_2
          try clear hcz6_0
          try clear hcz6_1
          try clear hcz6_2
          try clear hcz8_0
          try clear hcz8_1
          try clear hcz8_2
          try clear hfz10_0
          try clear hfz10_1
          try clear hfz10_2
          try clear hfz11_0
          try clear hfz11_1
          try clear hfz11_2
          try clear hfz13_0
          try clear hfz13_1
          try clear hfz13_2
          try clear hfz6_0
          try clear hfz6_1
          try clear hfz6_2
          try clear hfz8_0
          try clear hfz8_1
          try clear hfz8_2
          try clear p2
          obtain ⟨x31_2, rfl, HA, HK2, BK108, HB⟩ := hrel
          cases gk with
          | zero => exact absurd HA.out (by simp [audit_May.l0])
          | succ k2 =>
            have H := HA.out
            clear HA
            simp only [audit_May.l0] at H
            by_cases c14 : x31_2 < (l0_2.length : Int)
            · rw [if_pos c14] at H
              have c14b0 : decide (x31_2 < (l0_2.length : Int)) = true := decide_eq_true c14
              clear c14
              by_cases c15 : 0 ≤ x31_2
              · rw [if_pos c15] at H
                have c15b0 : decide (0 ≤ x31_2) = true := decide_eq_true c15
                clear c15
                by_cases c16 : x31_2 < (l0_2.length : Int)
                · rw [if_pos c16] at H
                  have c16b0 : decide (x31_2 < (l0_2.length : Int)) = true := decide_eq_true c16
                  clear c16
                  replace H := Option.bind_eq_some_iff.mp H
                  obtain ⟨t111, A170, H⟩ := H
                  replace H : (if t111 = true then (if ((rd_T36 l0_2 x31_2).f0) = (wrap64 ((wrap64 ((wrap64 (a0_1 - (l0_2.length : Int))) + x31_2)) + 1)) then (audit_May.l0 k2 l0_2 (l0_2.length : Int) (wrap64 (x31_2 + 1)) a0_0 a0_1 l0_2) else (some false)) else (some false)) = some r := H
                  have A17 := Aside0.mk A170
                  clear A170
                  by_cases c18 : t111 = true
                  · subst c18
                    have H1 : (if ((rd_T36 l0_2 x31_2).f0) = (wrap64 ((wrap64 ((wrap64 (a0_1 - (l0_2.length : Int))) + x31_2)) + 1)) then (audit_May.l0 k2 l0_2 (l0_2.length : Int) (wrap64 (x31_2 + 1)) a0_0 a0_1 l0_2) else (some false)) = some r := by rw [if_pos rfl] at H; exact H
                    clear H
                    have H := H1
                    clear H1
                    by_cases c19 : ((rd_T36 l0_2 x31_2).f0) = (wrap64 ((wrap64 ((wrap64 (a0_1 - (l0_2.length : Int))) + x31_2)) + 1))
                    · rw [if_pos c19] at H
                      have c19b0 : (((rd_T36 l0_2 x31_2).f0) == (wrap64 ((wrap64 ((wrap64 (a0_1 - (l0_2.length : Int))) + x31_2)) + 1))) = true := beq_iff_eq.mpr c19
                      have c19b1 : (((rd_T36 l0_2 x31_2).f0) != (wrap64 ((wrap64 ((wrap64 (a0_1 - (l0_2.length : Int))) + x31_2)) + 1))) = false := bne_eq_false_iff_eq.mpr c19
                      clear c19
                      have H' := Aside0.mk H
                      clear H
                      have p109 : 0 ≤ (x31_2 : Int) := of_decide_eq_true (by first | (with_reducible assumption) | assumption)
                      have q109 : x31_2 < (l0_2.length : Int) := of_decide_eq_true (by first | (with_reducible assumption) | assumption)
                      obtain ⟨ad109, e109, hx109_0, hx109_1, hx109_2, hx109_3, hx109_4⟩ := at_T36 HR0_2.out x31_2 p109 q109
                      cases e109
                      replace hx109_0 := (HB.out.cell (World.block_lt_of_cell? w _ hx109_0)).trans hx109_0
                      replace hx109_1 := (HB.out.cell (World.block_lt_of_cell? w _ hx109_1)).trans hx109_1
                      replace hx109_2 := (HB.out.cell (World.block_lt_of_cell? w _ hx109_2)).trans hx109_2
                      replace hx109_3 := (HB.out.cell (World.block_lt_of_cell? w _ hx109_3)).trans hx109_3
                      replace hx109_4 := (HB.out.cell (World.block_lt_of_cell? w _ hx109_4)).trans hx109_4
                      replace p109 := eq_true p109
                      replace q109 := eq_true q109
                      go_wp2_with (first | ((with_reducible refine gate_dst (N := 4) rfl ?_); (try (refine gate_guard (by rfl) ?_; dsimp only)); refine box_event ?hg (N := 4) ?hd (cs := #[.int .i64 0, .int .i64 0, .int .i64 0, .string (⟨#[]⟩ : ByteArray), .int .i64 0]) (t := 36) ?hr ?_; (case hd => rfl); (case hg => rfl); (case hr => first | (go_simp; done) | (go_simp; rfl)); intro gb110 hg w20 hbox hb; have n0_ := Aside0.mk (blk_below (g := gb108) (o := .cells #[.string a0_0, .int .i64 a0_1, .slice (some ad109) l0_2.length c0_2] 27 (0, 0)) (by (with_reducible repeat (first | refine blk_drewN ?_ _ | refine blk_drew ?_ | refine blk_alloc ?_ _)); exact BK108.out) hb); have n1_ := Aside0.mk (below_step (by repeat (first | (with_reducible first | exact HB.out | apply below_alloc | apply pw_below_drewN | apply below_drew1 | refine below_set ?_ GE108.out) | exact HB.out)) hb); have n2_ := Aside0.mk (hbox); have n3_ := Aside0.mk ((by rw [hg]; exact (below_size (by repeat (first | (with_reducible first | exact HB.out | apply below_alloc | apply pw_below_drewN | apply below_drew1 | refine below_set ?_ GE108.out) | exact HB.out))) : w.heap.size ≤ gb110)); have n4_ := Aside0.mk ((by rw [hg]; exact (below_size (by repeat (first | (with_reducible first | exact HB.out | apply below_alloc | apply pw_below_drewN | apply below_drew1 | refine below_set ?_ GE108.out) | exact HB.out))) : w.heap.size ≤ gb110)); have n5_ := Aside0.mk ((by rw [hg]; exact Nat.ne_of_lt (blk_lt (g := gb108) (o := .cells #[.string a0_0, .int .i64 a0_1, .slice (some ad109) l0_2.length c0_2] 27 (0, 0)) (by (with_reducible repeat (first | refine blk_drewN ?_ _ | refine blk_drew ?_ | refine blk_alloc ?_ _)); exact BK108.out)) : gb108 ≠ gb110)); have n6_ := Aside0.mk ((by rw [hg]; exact Nat.ne_of_gt (blk_lt (g := gb108) (o := .cells #[.string a0_0, .int .i64 a0_1, .slice (some ad109) l0_2.length c0_2] 27 (0, 0)) (by (with_reducible repeat (first | refine blk_drewN ?_ _ | refine blk_drew ?_ | refine blk_alloc ?_ _)); exact BK108.out)) : gb110 ≠ gb108)); clear BK108; clear HB; have BK108 := n0_; have HB := n1_; have BK110 := n2_; have GW110 := n3_; have GE110 := n4_; have NB108_110 := n5_; have NB110_108 := n6_; clear n0_ n1_ n2_ n3_ n4_ n5_ n6_; clear hb hbox hg; have hnb21 := NB110_108.out; have hnc21 := NB108_110.out; have hcz22_0 : w20.cell? ⟨gb110, 0, none⟩ = some (.int .i64 0) := (blk_cell BK110.out 0).trans rfl; have hcz22_1 : w20.cell? ⟨gb110, 1, none⟩ = some (.int .i64 0) := (blk_cell BK110.out 1).trans rfl; have hcz22_2 : w20.cell? ⟨gb110, 2, none⟩ = some (.int .i64 0) := (blk_cell BK110.out 2).trans rfl; have hcz22_3 : w20.cell? ⟨gb110, 3, none⟩ = some (.string (⟨#[]⟩ : ByteArray)) := (blk_cell BK110.out 3).trans rfl; have hcz22_4 : w20.cell? ⟨gb110, 4, none⟩ = some (.int .i64 0) := (blk_cell BK110.out 4).trans rfl; have hfz22_0 := blk_frozen BK110.out 0; have hfz22_1 := blk_frozen BK110.out 1; have hfz22_2 := blk_frozen BK110.out 2; have hfz22_3 := blk_frozen BK110.out 3; have hfz22_4 := blk_frozen BK110.out 4) | ((with_reducible refine gate_callee (f := 31) rfl ?_); refine goesL_ (some 37) rfl rfl Try.func31 (by kernel_rfl) rfl #[.agg #[.int .i64 ((rd_T36 l0_2 x31_2).f0), .int .i64 ((rd_T36 l0_2 x31_2).f1), .int .i64 ((rd_T36 l0_2 x31_2).f2), .string ((rd_T36 l0_2 x31_2).f3), .int .i64 ((rd_T36 l0_2 x31_2).f4)]] rfl (by (try simp only [List.map_toArray, List.map_cons, List.map_nil]); first | done | rfl | (simp only [List.length_drop, List.length_take]; rfl)) ?_; (with_reducible refine (audit_good.calls ((rd_T36 l0_2 x31_2).f0) ((rd_T36 l0_2 x31_2).f1) ((rd_T36 l0_2 x31_2).f2) ((rd_T36 l0_2 x31_2).f3) ((rd_T36 l0_2 x31_2).f4) true _ A17.out).mono ?_); rintro e w23 ⟨rfl, hb⟩; refine ⟨_, rfl, ?_⟩; have n0_ := Aside0.mk (blk_below (g := gb108) (o := .cells #[.string a0_0, .int .i64 a0_1, .slice (some ad109) l0_2.length c0_2] 27 (0, 0)) (by (with_reducible repeat (first | refine blk_drewN ?_ _ | refine blk_drew ?_ | refine blk_alloc ?_ _)); refine blk_far ?_ NB108_110.out _; (with_reducible repeat (first | refine blk_drewN ?_ _ | refine blk_drew ?_ | refine blk_alloc ?_ _)); refine blk_far ?_ NB108_110.out _; (with_reducible repeat (first | refine blk_drewN ?_ _ | refine blk_drew ?_ | refine blk_alloc ?_ _)); refine blk_far ?_ NB108_110.out _; (with_reducible repeat (first | refine blk_drewN ?_ _ | refine blk_drew ?_ | refine blk_alloc ?_ _)); refine blk_far ?_ NB108_110.out _; (with_reducible repeat (first | refine blk_drewN ?_ _ | refine blk_drew ?_ | refine blk_alloc ?_ _)); refine blk_far ?_ NB108_110.out _; (with_reducible repeat (first | refine blk_drewN ?_ _ | refine blk_drew ?_ | refine blk_alloc ?_ _)); exact BK108.out) hb); have n1_ := Aside0.mk (blk_below (g := gb110) (o := .cells #[.int .i64 ((rd_T36 l0_2 x31_2).f0), .int .i64 ((rd_T36 l0_2 x31_2).f1), .int .i64 ((rd_T36 l0_2 x31_2).f2), .string ((rd_T36 l0_2 x31_2).f3), .int .i64 ((rd_T36 l0_2 x31_2).f4)] 36 (0, 0)) (by (with_reducible repeat (first | refine blk_drewN ?_ _ | refine blk_drew ?_ | refine blk_alloc ?_ _)); refine blk_put (cs := #[.int .i64 ((rd_T36 l0_2 x31_2).f0), .int .i64 ((rd_T36 l0_2 x31_2).f1), .int .i64 ((rd_T36 l0_2 x31_2).f2), .string ((rd_T36 l0_2 x31_2).f3), .int .i64 0]) ?_ 4 _ rfl; (with_reducible repeat (first | refine blk_drewN ?_ _ | refine blk_drew ?_ | refine blk_alloc ?_ _)); refine blk_put (cs := #[.int .i64 ((rd_T36 l0_2 x31_2).f0), .int .i64 ((rd_T36 l0_2 x31_2).f1), .int .i64 ((rd_T36 l0_2 x31_2).f2), .string (⟨#[]⟩ : ByteArray), .int .i64 0]) ?_ 3 _ rfl; (with_reducible repeat (first | refine blk_drewN ?_ _ | refine blk_drew ?_ | refine blk_alloc ?_ _)); refine blk_put (cs := #[.int .i64 ((rd_T36 l0_2 x31_2).f0), .int .i64 ((rd_T36 l0_2 x31_2).f1), .int .i64 0, .string (⟨#[]⟩ : ByteArray), .int .i64 0]) ?_ 2 _ rfl; (with_reducible repeat (first | refine blk_drewN ?_ _ | refine blk_drew ?_ | refine blk_alloc ?_ _)); refine blk_put (cs := #[.int .i64 ((rd_T36 l0_2 x31_2).f0), .int .i64 0, .int .i64 0, .string (⟨#[]⟩ : ByteArray), .int .i64 0]) ?_ 1 _ rfl; (with_reducible repeat (first | refine blk_drewN ?_ _ | refine blk_drew ?_ | refine blk_alloc ?_ _)); refine blk_put (cs := #[.int .i64 0, .int .i64 0, .int .i64 0, .string (⟨#[]⟩ : ByteArray), .int .i64 0]) ?_ 0 _ rfl; (with_reducible repeat (first | refine blk_drewN ?_ _ | refine blk_drew ?_ | refine blk_alloc ?_ _)); exact BK110.out) hb); have n2_ := Aside0.mk (below_step (by repeat (first | (with_reducible first | exact HB.out | apply below_alloc | apply pw_below_drewN | apply below_drew1 | refine below_set ?_ GE108.out | refine below_set ?_ GE110.out) | exact HB.out)) hb); clear BK108; clear BK110; clear HB; have BK108 := n0_; have BK110 := n1_; have HB := n2_; clear n0_ n1_ n2_; (try clear hb); (try clear hb2); (try clear hk); (try clear hi); have hcz24_0 : w23.cell? ⟨gb110, 0, none⟩ = some (.int .i64 ((rd_T36 l0_2 x31_2).f0)) := (blk_cell BK110.out 0).trans rfl; have hcz24_1 : w23.cell? ⟨gb110, 1, none⟩ = some (.int .i64 ((rd_T36 l0_2 x31_2).f1)) := (blk_cell BK110.out 1).trans rfl; have hcz24_2 : w23.cell? ⟨gb110, 2, none⟩ = some (.int .i64 ((rd_T36 l0_2 x31_2).f2)) := (blk_cell BK110.out 2).trans rfl; have hcz24_3 : w23.cell? ⟨gb110, 3, none⟩ = some (.string ((rd_T36 l0_2 x31_2).f3)) := (blk_cell BK110.out 3).trans rfl; have hcz24_4 : w23.cell? ⟨gb110, 4, none⟩ = some (.int .i64 ((rd_T36 l0_2 x31_2).f4)) := (blk_cell BK110.out 4).trans rfl; have hfz24_0 := blk_frozen BK110.out 0; have hfz24_1 := blk_frozen BK110.out 1; have hfz24_2 := blk_frozen BK110.out 2; have hfz24_3 := blk_frozen BK110.out 3; have hfz24_4 := blk_frozen BK110.out 4; have hcz25_0 : w23.cell? ⟨gb108, 0, none⟩ = some (.string a0_0) := (blk_cell BK108.out 0).trans rfl; have hcz25_1 : w23.cell? ⟨gb108, 1, none⟩ = some (.int .i64 a0_1) := (blk_cell BK108.out 1).trans rfl; have hcz25_2 : w23.cell? ⟨gb108, 2, none⟩ = some (.slice (some ad109) l0_2.length c0_2) := (blk_cell BK108.out 2).trans rfl; have hfz25_0 := blk_frozen BK108.out 0; have hfz25_1 := blk_frozen BK108.out 1; have hfz25_2 := blk_frozen BK108.out 2))
                      go_roundg k2
                      case measure => have := HJ1.out; have := HK2.out; omega
                      case rel => exact ⟨(wrap64 (x31_2 + 1)), (by first | rfl | (simp; done) | (simp [*]; done)), H', ⟨by have := HJ1.out; have := HK2.out; omega⟩, ⟨by (with_reducible repeat (first | refine blk_drewN ?_ _ | refine blk_drew ?_ | refine blk_alloc ?_ _)); exact BK108.out⟩, ⟨by repeat (first | (with_reducible first | exact HB.out | apply below_alloc | apply pw_below_drewN | apply below_drew1 | refine below_set ?_ GE108.out | refine below_set ?_ GE110.out) | exact HB.out)⟩⟩
                    · rw [if_neg c19] at H
                      have c19b0 : (((rd_T36 l0_2 x31_2).f0) == (wrap64 ((wrap64 ((wrap64 (a0_1 - (l0_2.length : Int))) + x31_2)) + 1))) = false := beq_eq_false_iff_ne.mpr c19
                      have c19b1 : (((rd_T36 l0_2 x31_2).f0) != (wrap64 ((wrap64 ((wrap64 (a0_1 - (l0_2.length : Int))) + x31_2)) + 1))) = true := bne_iff_ne.mpr c19
                      obtain rfl := Option.some.inj H
                      have p109 : 0 ≤ (x31_2 : Int) := of_decide_eq_true (by first | (with_reducible assumption) | assumption)
                      have q109 : x31_2 < (l0_2.length : Int) := of_decide_eq_true (by first | (with_reducible assumption) | assumption)
                      obtain ⟨ad109, e109, hx109_0, hx109_1, hx109_2, hx109_3, hx109_4⟩ := at_T36 HR0_2.out x31_2 p109 q109
                      cases e109
                      replace hx109_0 := (HB.out.cell (World.block_lt_of_cell? w _ hx109_0)).trans hx109_0
                      replace hx109_1 := (HB.out.cell (World.block_lt_of_cell? w _ hx109_1)).trans hx109_1
                      replace hx109_2 := (HB.out.cell (World.block_lt_of_cell? w _ hx109_2)).trans hx109_2
                      replace hx109_3 := (HB.out.cell (World.block_lt_of_cell? w _ hx109_3)).trans hx109_3
                      replace hx109_4 := (HB.out.cell (World.block_lt_of_cell? w _ hx109_4)).trans hx109_4
                      replace p109 := eq_true p109
                      replace q109 := eq_true q109
                      go_wp2_with (first | ((with_reducible refine gate_dst (N := 4) rfl ?_); (try (refine gate_guard (by rfl) ?_; dsimp only)); refine box_event ?hg (N := 4) ?hd (cs := #[.int .i64 0, .int .i64 0, .int .i64 0, .string (⟨#[]⟩ : ByteArray), .int .i64 0]) (t := 36) ?hr ?_; (case hd => rfl); (case hg => rfl); (case hr => first | (go_simp; done) | (go_simp; rfl)); intro gb110 hg w26 hbox hb; have n0_ := Aside0.mk (blk_below (g := gb108) (o := .cells #[.string a0_0, .int .i64 a0_1, .slice (some ad109) l0_2.length c0_2] 27 (0, 0)) (by (with_reducible repeat (first | refine blk_drewN ?_ _ | refine blk_drew ?_ | refine blk_alloc ?_ _)); exact BK108.out) hb); have n1_ := Aside0.mk (below_step (by repeat (first | (with_reducible first | exact HB.out | apply below_alloc | apply pw_below_drewN | apply below_drew1 | refine below_set ?_ GE108.out) | exact HB.out)) hb); have n2_ := Aside0.mk (hbox); have n3_ := Aside0.mk ((by rw [hg]; exact (below_size (by repeat (first | (with_reducible first | exact HB.out | apply below_alloc | apply pw_below_drewN | apply below_drew1 | refine below_set ?_ GE108.out) | exact HB.out))) : w.heap.size ≤ gb110)); have n4_ := Aside0.mk ((by rw [hg]; exact (below_size (by repeat (first | (with_reducible first | exact HB.out | apply below_alloc | apply pw_below_drewN | apply below_drew1 | refine below_set ?_ GE108.out) | exact HB.out))) : w.heap.size ≤ gb110)); have n5_ := Aside0.mk ((by rw [hg]; exact Nat.ne_of_lt (blk_lt (g := gb108) (o := .cells #[.string a0_0, .int .i64 a0_1, .slice (some ad109) l0_2.length c0_2] 27 (0, 0)) (by (with_reducible repeat (first | refine blk_drewN ?_ _ | refine blk_drew ?_ | refine blk_alloc ?_ _)); exact BK108.out)) : gb108 ≠ gb110)); have n6_ := Aside0.mk ((by rw [hg]; exact Nat.ne_of_gt (blk_lt (g := gb108) (o := .cells #[.string a0_0, .int .i64 a0_1, .slice (some ad109) l0_2.length c0_2] 27 (0, 0)) (by (with_reducible repeat (first | refine blk_drewN ?_ _ | refine blk_drew ?_ | refine blk_alloc ?_ _)); exact BK108.out)) : gb110 ≠ gb108)); clear BK108; clear HB; have BK108 := n0_; have HB := n1_; have BK110 := n2_; have GW110 := n3_; have GE110 := n4_; have NB108_110 := n5_; have NB110_108 := n6_; clear n0_ n1_ n2_ n3_ n4_ n5_ n6_; clear hb hbox hg; have hnb27 := NB110_108.out; have hnc27 := NB108_110.out; have hcz28_0 : w26.cell? ⟨gb110, 0, none⟩ = some (.int .i64 0) := (blk_cell BK110.out 0).trans rfl; have hcz28_1 : w26.cell? ⟨gb110, 1, none⟩ = some (.int .i64 0) := (blk_cell BK110.out 1).trans rfl; have hcz28_2 : w26.cell? ⟨gb110, 2, none⟩ = some (.int .i64 0) := (blk_cell BK110.out 2).trans rfl; have hcz28_3 : w26.cell? ⟨gb110, 3, none⟩ = some (.string (⟨#[]⟩ : ByteArray)) := (blk_cell BK110.out 3).trans rfl; have hcz28_4 : w26.cell? ⟨gb110, 4, none⟩ = some (.int .i64 0) := (blk_cell BK110.out 4).trans rfl; have hfz28_0 := blk_frozen BK110.out 0; have hfz28_1 := blk_frozen BK110.out 1; have hfz28_2 := blk_frozen BK110.out 2; have hfz28_3 := blk_frozen BK110.out 3; have hfz28_4 := blk_frozen BK110.out 4) | ((with_reducible refine gate_callee (f := 31) rfl ?_); refine goesL_ (some 37) rfl rfl Try.func31 (by kernel_rfl) rfl #[.agg #[.int .i64 ((rd_T36 l0_2 x31_2).f0), .int .i64 ((rd_T36 l0_2 x31_2).f1), .int .i64 ((rd_T36 l0_2 x31_2).f2), .string ((rd_T36 l0_2 x31_2).f3), .int .i64 ((rd_T36 l0_2 x31_2).f4)]] rfl (by (try simp only [List.map_toArray, List.map_cons, List.map_nil]); first | done | rfl | (simp only [List.length_drop, List.length_take]; rfl)) ?_; (with_reducible refine (audit_good.calls ((rd_T36 l0_2 x31_2).f0) ((rd_T36 l0_2 x31_2).f1) ((rd_T36 l0_2 x31_2).f2) ((rd_T36 l0_2 x31_2).f3) ((rd_T36 l0_2 x31_2).f4) true _ A17.out).mono ?_); rintro e w29 ⟨rfl, hb⟩; refine ⟨_, rfl, ?_⟩; have n0_ := Aside0.mk (blk_below (g := gb108) (o := .cells #[.string a0_0, .int .i64 a0_1, .slice (some ad109) l0_2.length c0_2] 27 (0, 0)) (by (with_reducible repeat (first | refine blk_drewN ?_ _ | refine blk_drew ?_ | refine blk_alloc ?_ _)); refine blk_far ?_ NB108_110.out _; (with_reducible repeat (first | refine blk_drewN ?_ _ | refine blk_drew ?_ | refine blk_alloc ?_ _)); refine blk_far ?_ NB108_110.out _; (with_reducible repeat (first | refine blk_drewN ?_ _ | refine blk_drew ?_ | refine blk_alloc ?_ _)); refine blk_far ?_ NB108_110.out _; (with_reducible repeat (first | refine blk_drewN ?_ _ | refine blk_drew ?_ | refine blk_alloc ?_ _)); refine blk_far ?_ NB108_110.out _; (with_reducible repeat (first | refine blk_drewN ?_ _ | refine blk_drew ?_ | refine blk_alloc ?_ _)); refine blk_far ?_ NB108_110.out _; (with_reducible repeat (first | refine blk_drewN ?_ _ | refine blk_drew ?_ | refine blk_alloc ?_ _)); exact BK108.out) hb); have n1_ := Aside0.mk (blk_below (g := gb110) (o := .cells #[.int .i64 ((rd_T36 l0_2 x31_2).f0), .int .i64 ((rd_T36 l0_2 x31_2).f1), .int .i64 ((rd_T36 l0_2 x31_2).f2), .string ((rd_T36 l0_2 x31_2).f3), .int .i64 ((rd_T36 l0_2 x31_2).f4)] 36 (0, 0)) (by (with_reducible repeat (first | refine blk_drewN ?_ _ | refine blk_drew ?_ | refine blk_alloc ?_ _)); refine blk_put (cs := #[.int .i64 ((rd_T36 l0_2 x31_2).f0), .int .i64 ((rd_T36 l0_2 x31_2).f1), .int .i64 ((rd_T36 l0_2 x31_2).f2), .string ((rd_T36 l0_2 x31_2).f3), .int .i64 0]) ?_ 4 _ rfl; (with_reducible repeat (first | refine blk_drewN ?_ _ | refine blk_drew ?_ | refine blk_alloc ?_ _)); refine blk_put (cs := #[.int .i64 ((rd_T36 l0_2 x31_2).f0), .int .i64 ((rd_T36 l0_2 x31_2).f1), .int .i64 ((rd_T36 l0_2 x31_2).f2), .string (⟨#[]⟩ : ByteArray), .int .i64 0]) ?_ 3 _ rfl; (with_reducible repeat (first | refine blk_drewN ?_ _ | refine blk_drew ?_ | refine blk_alloc ?_ _)); refine blk_put (cs := #[.int .i64 ((rd_T36 l0_2 x31_2).f0), .int .i64 ((rd_T36 l0_2 x31_2).f1), .int .i64 0, .string (⟨#[]⟩ : ByteArray), .int .i64 0]) ?_ 2 _ rfl; (with_reducible repeat (first | refine blk_drewN ?_ _ | refine blk_drew ?_ | refine blk_alloc ?_ _)); refine blk_put (cs := #[.int .i64 ((rd_T36 l0_2 x31_2).f0), .int .i64 0, .int .i64 0, .string (⟨#[]⟩ : ByteArray), .int .i64 0]) ?_ 1 _ rfl; (with_reducible repeat (first | refine blk_drewN ?_ _ | refine blk_drew ?_ | refine blk_alloc ?_ _)); refine blk_put (cs := #[.int .i64 0, .int .i64 0, .int .i64 0, .string (⟨#[]⟩ : ByteArray), .int .i64 0]) ?_ 0 _ rfl; (with_reducible repeat (first | refine blk_drewN ?_ _ | refine blk_drew ?_ | refine blk_alloc ?_ _)); exact BK110.out) hb); have n2_ := Aside0.mk (below_step (by repeat (first | (with_reducible first | exact HB.out | apply below_alloc | apply pw_below_drewN | apply below_drew1 | refine below_set ?_ GE108.out | refine below_set ?_ GE110.out) | exact HB.out)) hb); clear BK108; clear BK110; clear HB; have BK108 := n0_; have BK110 := n1_; have HB := n2_; clear n0_ n1_ n2_; (try clear hb); (try clear hb2); (try clear hk); (try clear hi); have hcz30_0 : w29.cell? ⟨gb110, 0, none⟩ = some (.int .i64 ((rd_T36 l0_2 x31_2).f0)) := (blk_cell BK110.out 0).trans rfl; have hcz30_1 : w29.cell? ⟨gb110, 1, none⟩ = some (.int .i64 ((rd_T36 l0_2 x31_2).f1)) := (blk_cell BK110.out 1).trans rfl; have hcz30_2 : w29.cell? ⟨gb110, 2, none⟩ = some (.int .i64 ((rd_T36 l0_2 x31_2).f2)) := (blk_cell BK110.out 2).trans rfl; have hcz30_3 : w29.cell? ⟨gb110, 3, none⟩ = some (.string ((rd_T36 l0_2 x31_2).f3)) := (blk_cell BK110.out 3).trans rfl; have hcz30_4 : w29.cell? ⟨gb110, 4, none⟩ = some (.int .i64 ((rd_T36 l0_2 x31_2).f4)) := (blk_cell BK110.out 4).trans rfl; have hfz30_0 := blk_frozen BK110.out 0; have hfz30_1 := blk_frozen BK110.out 1; have hfz30_2 := blk_frozen BK110.out 2; have hfz30_3 := blk_frozen BK110.out 3; have hfz30_4 := blk_frozen BK110.out 4; have hcz31_0 : w29.cell? ⟨gb108, 0, none⟩ = some (.string a0_0) := (blk_cell BK108.out 0).trans rfl; have hcz31_1 : w29.cell? ⟨gb108, 1, none⟩ = some (.int .i64 a0_1) := (blk_cell BK108.out 1).trans rfl; have hcz31_2 : w29.cell? ⟨gb108, 2, none⟩ = some (.slice (some ad109) l0_2.length c0_2) := (blk_cell BK108.out 2).trans rfl; have hfz31_0 := blk_frozen BK108.out 0; have hfz31_1 := blk_frozen BK108.out 1; have hfz31_2 := blk_frozen BK108.out 2))
                      go_ret
                      exact ⟨by first | rfl | (simp [errW_none, errW_some] <;> rfl) | (simp [*, errW_none, errW_some] <;> rfl), by repeat (first | (with_reducible first | exact HB.out | apply below_alloc | apply pw_below_drewN | apply below_drew1 | refine below_set ?_ GE108.out | refine below_set ?_ GE110.out) | exact HB.out)⟩
                  · replace c18 := Bool.eq_false_iff.mpr c18
                    subst c18
                    have H1 : (some false) = some r := by rw [if_neg (show ¬ (false = true) by decide)] at H; exact H
                    clear H
                    have H := H1
                    clear H1
                    obtain rfl := Option.some.inj H
                    have p109 : 0 ≤ (x31_2 : Int) := of_decide_eq_true (by first | (with_reducible assumption) | assumption)
                    have q109 : x31_2 < (l0_2.length : Int) := of_decide_eq_true (by first | (with_reducible assumption) | assumption)
                    obtain ⟨ad109, e109, hx109_0, hx109_1, hx109_2, hx109_3, hx109_4⟩ := at_T36 HR0_2.out x31_2 p109 q109
                    cases e109
                    replace hx109_0 := (HB.out.cell (World.block_lt_of_cell? w _ hx109_0)).trans hx109_0
                    replace hx109_1 := (HB.out.cell (World.block_lt_of_cell? w _ hx109_1)).trans hx109_1
                    replace hx109_2 := (HB.out.cell (World.block_lt_of_cell? w _ hx109_2)).trans hx109_2
                    replace hx109_3 := (HB.out.cell (World.block_lt_of_cell? w _ hx109_3)).trans hx109_3
                    replace hx109_4 := (HB.out.cell (World.block_lt_of_cell? w _ hx109_4)).trans hx109_4
                    replace p109 := eq_true p109
                    replace q109 := eq_true q109
                    go_wp2_with (first | ((with_reducible refine gate_dst (N := 4) rfl ?_); (try (refine gate_guard (by rfl) ?_; dsimp only)); refine box_event ?hg (N := 4) ?hd (cs := #[.int .i64 0, .int .i64 0, .int .i64 0, .string (⟨#[]⟩ : ByteArray), .int .i64 0]) (t := 36) ?hr ?_; (case hd => rfl); (case hg => rfl); (case hr => first | (go_simp; done) | (go_simp; rfl)); intro gb110 hg w32 hbox hb; have n0_ := Aside0.mk (blk_below (g := gb108) (o := .cells #[.string a0_0, .int .i64 a0_1, .slice (some ad109) l0_2.length c0_2] 27 (0, 0)) (by (with_reducible repeat (first | refine blk_drewN ?_ _ | refine blk_drew ?_ | refine blk_alloc ?_ _)); exact BK108.out) hb); have n1_ := Aside0.mk (below_step (by repeat (first | (with_reducible first | exact HB.out | apply below_alloc | apply pw_below_drewN | apply below_drew1 | refine below_set ?_ GE108.out) | exact HB.out)) hb); have n2_ := Aside0.mk (hbox); have n3_ := Aside0.mk ((by rw [hg]; exact (below_size (by repeat (first | (with_reducible first | exact HB.out | apply below_alloc | apply pw_below_drewN | apply below_drew1 | refine below_set ?_ GE108.out) | exact HB.out))) : w.heap.size ≤ gb110)); have n4_ := Aside0.mk ((by rw [hg]; exact (below_size (by repeat (first | (with_reducible first | exact HB.out | apply below_alloc | apply pw_below_drewN | apply below_drew1 | refine below_set ?_ GE108.out) | exact HB.out))) : w.heap.size ≤ gb110)); have n5_ := Aside0.mk ((by rw [hg]; exact Nat.ne_of_lt (blk_lt (g := gb108) (o := .cells #[.string a0_0, .int .i64 a0_1, .slice (some ad109) l0_2.length c0_2] 27 (0, 0)) (by (with_reducible repeat (first | refine blk_drewN ?_ _ | refine blk_drew ?_ | refine blk_alloc ?_ _)); exact BK108.out)) : gb108 ≠ gb110)); have n6_ := Aside0.mk ((by rw [hg]; exact Nat.ne_of_gt (blk_lt (g := gb108) (o := .cells #[.string a0_0, .int .i64 a0_1, .slice (some ad109) l0_2.length c0_2] 27 (0, 0)) (by (with_reducible repeat (first | refine blk_drewN ?_ _ | refine blk_drew ?_ | refine blk_alloc ?_ _)); exact BK108.out)) : gb110 ≠ gb108)); clear BK108; clear HB; have BK108 := n0_; have HB := n1_; have BK110 := n2_; have GW110 := n3_; have GE110 := n4_; have NB108_110 := n5_; have NB110_108 := n6_; clear n0_ n1_ n2_ n3_ n4_ n5_ n6_; clear hb hbox hg; have hnb33 := NB110_108.out; have hnc33 := NB108_110.out; have hcz34_0 : w32.cell? ⟨gb110, 0, none⟩ = some (.int .i64 0) := (blk_cell BK110.out 0).trans rfl; have hcz34_1 : w32.cell? ⟨gb110, 1, none⟩ = some (.int .i64 0) := (blk_cell BK110.out 1).trans rfl; have hcz34_2 : w32.cell? ⟨gb110, 2, none⟩ = some (.int .i64 0) := (blk_cell BK110.out 2).trans rfl; have hcz34_3 : w32.cell? ⟨gb110, 3, none⟩ = some (.string (⟨#[]⟩ : ByteArray)) := (blk_cell BK110.out 3).trans rfl; have hcz34_4 : w32.cell? ⟨gb110, 4, none⟩ = some (.int .i64 0) := (blk_cell BK110.out 4).trans rfl; have hfz34_0 := blk_frozen BK110.out 0; have hfz34_1 := blk_frozen BK110.out 1; have hfz34_2 := blk_frozen BK110.out 2; have hfz34_3 := blk_frozen BK110.out 3; have hfz34_4 := blk_frozen BK110.out 4) | ((with_reducible refine gate_callee (f := 31) rfl ?_); refine goesL_ (some 37) rfl rfl Try.func31 (by kernel_rfl) rfl #[.agg #[.int .i64 ((rd_T36 l0_2 x31_2).f0), .int .i64 ((rd_T36 l0_2 x31_2).f1), .int .i64 ((rd_T36 l0_2 x31_2).f2), .string ((rd_T36 l0_2 x31_2).f3), .int .i64 ((rd_T36 l0_2 x31_2).f4)]] rfl (by (try simp only [List.map_toArray, List.map_cons, List.map_nil]); first | done | rfl | (simp only [List.length_drop, List.length_take]; rfl)) ?_; (with_reducible refine (audit_good.calls ((rd_T36 l0_2 x31_2).f0) ((rd_T36 l0_2 x31_2).f1) ((rd_T36 l0_2 x31_2).f2) ((rd_T36 l0_2 x31_2).f3) ((rd_T36 l0_2 x31_2).f4) false _ A17.out).mono ?_); rintro e w35 ⟨rfl, hb⟩; refine ⟨_, rfl, ?_⟩; have n0_ := Aside0.mk (blk_below (g := gb108) (o := .cells #[.string a0_0, .int .i64 a0_1, .slice (some ad109) l0_2.length c0_2] 27 (0, 0)) (by (with_reducible repeat (first | refine blk_drewN ?_ _ | refine blk_drew ?_ | refine blk_alloc ?_ _)); refine blk_far ?_ NB108_110.out _; (with_reducible repeat (first | refine blk_drewN ?_ _ | refine blk_drew ?_ | refine blk_alloc ?_ _)); refine blk_far ?_ NB108_110.out _; (with_reducible repeat (first | refine blk_drewN ?_ _ | refine blk_drew ?_ | refine blk_alloc ?_ _)); refine blk_far ?_ NB108_110.out _; (with_reducible repeat (first | refine blk_drewN ?_ _ | refine blk_drew ?_ | refine blk_alloc ?_ _)); refine blk_far ?_ NB108_110.out _; (with_reducible repeat (first | refine blk_drewN ?_ _ | refine blk_drew ?_ | refine blk_alloc ?_ _)); refine blk_far ?_ NB108_110.out _; (with_reducible repeat (first | refine blk_drewN ?_ _ | refine blk_drew ?_ | refine blk_alloc ?_ _)); exact BK108.out) hb); have n1_ := Aside0.mk (blk_below (g := gb110) (o := .cells #[.int .i64 ((rd_T36 l0_2 x31_2).f0), .int .i64 ((rd_T36 l0_2 x31_2).f1), .int .i64 ((rd_T36 l0_2 x31_2).f2), .string ((rd_T36 l0_2 x31_2).f3), .int .i64 ((rd_T36 l0_2 x31_2).f4)] 36 (0, 0)) (by (with_reducible repeat (first | refine blk_drewN ?_ _ | refine blk_drew ?_ | refine blk_alloc ?_ _)); refine blk_put (cs := #[.int .i64 ((rd_T36 l0_2 x31_2).f0), .int .i64 ((rd_T36 l0_2 x31_2).f1), .int .i64 ((rd_T36 l0_2 x31_2).f2), .string ((rd_T36 l0_2 x31_2).f3), .int .i64 0]) ?_ 4 _ rfl; (with_reducible repeat (first | refine blk_drewN ?_ _ | refine blk_drew ?_ | refine blk_alloc ?_ _)); refine blk_put (cs := #[.int .i64 ((rd_T36 l0_2 x31_2).f0), .int .i64 ((rd_T36 l0_2 x31_2).f1), .int .i64 ((rd_T36 l0_2 x31_2).f2), .string (⟨#[]⟩ : ByteArray), .int .i64 0]) ?_ 3 _ rfl; (with_reducible repeat (first | refine blk_drewN ?_ _ | refine blk_drew ?_ | refine blk_alloc ?_ _)); refine blk_put (cs := #[.int .i64 ((rd_T36 l0_2 x31_2).f0), .int .i64 ((rd_T36 l0_2 x31_2).f1), .int .i64 0, .string (⟨#[]⟩ : ByteArray), .int .i64 0]) ?_ 2 _ rfl; (with_reducible repeat (first | refine blk_drewN ?_ _ | refine blk_drew ?_ | refine blk_alloc ?_ _)); refine blk_put (cs := #[.int .i64 ((rd_T36 l0_2 x31_2).f0), .int .i64 0, .int .i64 0, .string (⟨#[]⟩ : ByteArray), .int .i64 0]) ?_ 1 _ rfl; (with_reducible repeat (first | refine blk_drewN ?_ _ | refine blk_drew ?_ | refine blk_alloc ?_ _)); refine blk_put (cs := #[.int .i64 0, .int .i64 0, .int .i64 0, .string (⟨#[]⟩ : ByteArray), .int .i64 0]) ?_ 0 _ rfl; (with_reducible repeat (first | refine blk_drewN ?_ _ | refine blk_drew ?_ | refine blk_alloc ?_ _)); exact BK110.out) hb); have n2_ := Aside0.mk (below_step (by repeat (first | (with_reducible first | exact HB.out | apply below_alloc | apply pw_below_drewN | apply below_drew1 | refine below_set ?_ GE108.out | refine below_set ?_ GE110.out) | exact HB.out)) hb); clear BK108; clear BK110; clear HB; have BK108 := n0_; have BK110 := n1_; have HB := n2_; clear n0_ n1_ n2_; (try clear hb); (try clear hb2); (try clear hk); (try clear hi)))
                    go_ret
                    exact ⟨by first | rfl | (simp [errW_none, errW_some] <;> rfl) | (simp [*, errW_none, errW_some] <;> rfl), by repeat (first | (with_reducible first | exact HB.out | apply below_alloc | apply pw_below_drewN | apply below_drew1 | refine below_set ?_ GE108.out | refine below_set ?_ GE110.out) | exact HB.out)⟩
                · rw [if_neg c16] at H
                  exact absurd H (by simp)
              · rw [if_neg c15] at H
                exact absurd H (by simp)
            · rw [if_neg c14] at H
              have c14b0 : decide (x31_2 < (l0_2.length : Int)) = false := decide_eq_false c14
              clear c14
              obtain rfl := Option.some.inj H
              go_wp2
              go_ret
              exact ⟨by first | rfl | (simp [errW_none, errW_some] <;> rfl) | (simp [*, errW_none, errW_some] <;> rfl), by repeat (first | (with_reducible first | exact HB.out | apply below_alloc | apply pw_below_drewN | apply below_drew1 | refine below_set ?_ GE108.out) | exact HB.out)⟩

end Go.Proofs.Ytmifoihfpjomaaa.F
