/- Texts of this seat laid together: AudD, RowO, RegB, AudE, AudG, AudH, AudS, AudL, AudO, AudF, AudR. -/
import Derived.Test.YtmifoihfpjomaaaSD
import Derived.Test.YtmifoihfpjomaaaSA
import Derived.Test.YtmifoihfpjomaaaSB

-- AudD
namespace Go.Proofs.Ytmifoihfpjomaaa.F
open Go Go.RowKit Go.Proofs.YtmifoihfpjomaaaW.PrintWords Go.Proofs.YtmifoihfpjomaaaW.PrintLast Go.Proofs.YtmifoihfpjomaaaW.PrintMore Go.Proofs.YtmifoihfpjomaaaM Go.Proofs.YtmifoihfpjomaaaR
attribute [local go_sem] max2_int min2_int max_two min_two
set_option linter.unusedSimpArgs false
set_option linter.unusedVariables false
set_option maxRecDepth 100000
theorem infoStr : (Try.prog.info? 9).map (fun i => (i.zero, i.size, i.bytes)) = some (some (.string ⟨#[]⟩), 1, 16) := by kernel_rfl
def strE (l : List En) : List ByteArray := l.map fun e => strOfNums (bytesE e)
theorem chainL_strE (d : List Int) (l : List En) : chainL d (strE l) = chainE d l := by
  unfold chainL strE chainE
  induction l generalizing d with
  | nil => rfl
  | cons e l ih => simp only [List.map_cons, List.foldl_cons]; rw [bytesOf_str' (bytesE_bytes e), ih]
theorem own_strs {w : World} {base n : Nat} {e : TypeId} {v : Value} {l : List ByteArray} (h : w.ownsRow base e 1 v n (encs Value.string l)) : ∃ A c, v = .slice A n c ∧ l.length = n ∧ n ≤ c ∧ Kd.C Kd.string w A n l := by
  have hl : l.length = n := by have := h.1; simp [encs] at this; exact this
  obtain ⟨A, c, rfl, hr⟩ := own_reads_of (d := ByteArray.empty) h
  exact ⟨A, c, rfl, hl, own_le h, Kd.C_of_reads (h1 := fun _ => rfl) hr⟩
set_option maxHeartbeats 4000000 in
theorem rachain_c (w : World) (d : List Int) (A : Option Addr) (n c : Nat) (l : List En) (hr : Kd.C k36 w A n l) (hn : l.length = n) (hc : n ≤ c) (hn2 : n ≤ 1000) (hd : bytes8' d) (hdl : d.length ≤ 1000) (hg : ∀ e ∈ l, goodP e = true) :
    Calls Try.prog 21 #[.string (strOfNums d), .slice A n c] w (Tells w (Is (.string (strOfNums (chainE d l))))) := by
  have HR := Lib.hid hr
  have HN := Lib.hid hn
  have HG := Lib.hid hg
  have HCH := Lib.hid (fun w' A' c' (h : Kd.C Kd.string w' A' n (strE l)) (hc' : n ≤ c') => rchain_c d hd (by omega) n w' A' c' (strE l) h (by simp [strE, hn]) hc' (by omega) (by
    intro p hp
    obtain ⟨e, he, rfl⟩ := List.mem_map.1 hp
    rw [str_size]
    have := bytesE_len (hg e he)
    omega))
  rw [chainL_strE] at HCH
  obtain ⟨K, hK⟩ : ∃ K, K = strOfNums d := ⟨_, rfl⟩
  obtain ⟨R, hR⟩ : ∃ R, R = strOfNums (chainE d l) := ⟨_, rfl⟩
  rw [← hK, ← hR] at HCH ⊢
  clear hr hn hg hd hdl hK hR
  go_enter Try.func21, Try.ntmps21
  go_wp2_with fail
  go_loopw [5, 6] (fun v5 iv wr => ∃ (pre suf : List En), iv = .int .i64 (pre.length : Int) ∧ l = pre ++ suf ∧ wr.ownsRow w.heap.size 9 1 v5 (strE pre).length (encs Value.string (strE pre)) ∧ Grew w wr) (fun _ iv _ => n - (intOf iv).toNat)
  case atStart => exact ⟨[], l, rfl, rfl, own_nil _ _ _ _, Grew.refl w⟩
  case round =>
    obtain ⟨pre, suf, rfl, hp, hown, hgr⟩ := hrel
    have hnn := HN.out
    rw [hp, List.length_append] at hnn
    rcases suf with _ | ⟨e, suf⟩
    · have d1 : decide ((pre.length : Int) < (n : Int)) = false := decide_eq_false (by simp at hnn; omega)
      have d2 : decide (pre.length < n) = false := decide_eq_false (by simp at hnn; omega)
      rw [List.append_nil] at hp
      have hl2 : (strE pre).length = n := by rw [← hp]; simp [strE]; exact HN.out
      obtain ⟨A5, c5, rfl, -, hc5, hC5⟩ := own_strs hown
      rw [← hp] at hC5
      rw [hl2] at hc5
      have hC5' : Kd.C Kd.string wr A5 n (strE l) := by rw [hp, hl2] at hC5; rw [hp]; exact hC5
      have HCC := Lib.hid (HCH.out wr A5 c5 hC5' hc5)
      rw [hl2]
      clear hp hnn hown hC5 hC5' hl2
      go_wp2_with fail
      refine HCC.out.mono ?_
      rintro e w2 ⟨_, rfl, rfl, hg2⟩
      go_wp2_with fail
      go_ret
      exact ⟨_, rfl, rfl, Grew.trans hgr hg2⟩
    · have hlt : pre.length < n := by simp at hnn; omega
      have d1 : decide ((pre.length : Int) < (n : Int)) = true := decide_eq_true (by omega)
      have d2 : decide (pre.length < n) = true := decide_eq_true hlt
      have i1 : (pre.length : Int) < (n : Int) := by omega
      obtain ⟨ad0, rfl, k0, k1, k2, k3, k4⟩ := at_T36 (Kd.C_below HR.out hgr) (pre.length : Int) (by omega) i1
      have hxe : rd_T36 l (pre.length : Int) = e := by rw [hp]; exact rd_mid pre suf e
      rw [Int.toNat_natCast, hxe] at k0 k1 k2 k3 k4
      have hge := HG.out e (by rw [hp]; simp)
      have HP := Lib.hid (show l = (pre ++ [e]) ++ suf from by rw [hp]; simp)
      have hlp := Lib.hid (show (strE pre).length ≤ 1000 from by simp [strE]; omega)
      obtain ⟨s, t, k, p, x⟩ := e
      simp only at k0 k1 k2 k3 k4
      have HBY := Lib.hid (fun w => rbytes_c s t k p x hge w)
      obtain ⟨M, hM⟩ : ∃ M, M = strOfNums (bytesE ⟨s, t, k, p, x⟩) := ⟨_, rfl⟩
      rw [← hM] at HBY
      have HSN := Lib.hid (show strE pre ++ [M] = strE (pre ++ [⟨s, t, k, p, x⟩]) from by rw [hM]; simp [strE])
      have HO := Lib.hid hown
      have HGR := Lib.hid hgr
      clear hp hnn hxe hge hM hgr hown
      obtain ⟨A5, c5, rfl⟩ := own_slice HO.out
      go_wp2_with fail
      refine (HBY.out _).mono ?_
      rintro e2 w2 ⟨_, rfl, rfl, hg2⟩
      have hgr3 := Grew.trans HGR.out hg2
      have hown3 := pw_own_below (pw_own_below HO.out hg2) (Grew.alloc w2 (.cells #[.string M] 9))
      obtain ⟨v8, w8, hrun, hown8, hgr8, -⟩ := app_cells (P := Try.prog) (w2.alloc (.cells #[.string M] 9)) w.heap.size 56 9 56 (.string ⟨#[]⟩) 1 16 Try.underlying56 infoStr rfl (by decide) (by decide) (.slice A5 (strE pre).length c5) (strE pre).length (encs Value.string (strE pre)) w2.heap.size [.string M] rfl (by intro u hu; simp at hu; rcases hu with rfl; rfl) hown3 (Blk.new w2 9 [.string M]) (Nat.le_trans hgr3.size (by simp)) (by have := hlp.out; omega)
      have hgr8' : Grew w w8 := ((Upd.of_grew (S := fun k => (Value.slice A5 (strE pre).length c5).ownBlock = some k) (Grew.trans hgr3 (Grew.alloc w2 (.cells #[.string M] 9)))).trans (Upd.of_grown hgr8)).grew (fun i hi h => by have := own_base HO.out i h; omega)
      have HRUN := Lib.hid hrun
      have HO8 := Lib.hid (show w8.ownsRow w.heap.size 9 1 v8 (strE (pre ++ [⟨s, t, k, p, x⟩])).length (encs Value.string (strE (pre ++ [⟨s, t, k, p, x⟩]))) from by
        rw [← HSN.out, List.length_append]
        have : encs Value.string (strE pre ++ [M]) = encs Value.string (strE pre) ++ [.string M] := by simp [encs]
        rw [this]; exact hown8)
      clear k0 k1 k2 k3 k4 hg2 hown3 hrun hown8 hgr8 hgr3
      go_wp2_with (at_builtin; refine wpList_app (by rfl) (.tmp 13) (.tmp 19) 56 (by rfl) (by rfl) (by rfl) HRUN.out ?_)
      go_roundw
      case rel => exact ⟨pre ++ [⟨s, t, k, p, x⟩], suf, by simp, HP.out, HO8.out, hgr8'⟩
      case measure => simp [intOf]; omega
def digP (a : ByteArray) (last : Int) (l : List En) : ByteArray := if mayP a last l then strOfNums (chainE (bytesOf a) l) else ⟨#[]⟩
set_option maxHeartbeats 4000000 in
theorem digest_c (a : ByteArray) (last : Int) (A : Option Addr) (c : Nat) (l : List En) (w : World) (hr : Kd.C k36 w A l.length l) (hc : l.length ≤ c) :
    Calls Try.prog 20 #[.agg #[.string a, .int .i64 last, .slice A l.length c]] w (Tells w (Is (.string (digP a last l)))) := by
  have HM := Lib.hid (fun w' (h : Grew w w') => may_c a last A c l w' (Kd.C_below hr h) hc)
  obtain ⟨R, hR⟩ : ∃ R, R = digP a last l := ⟨_, rfl⟩
  rw [← hR]
  obtain ⟨b, hb⟩ : ∃ b, mayP a last l = b := ⟨_, rfl⟩
  rw [hb] at HM
  have hgw : Grew w (w.alloc (.cells #[.string a, .int .i64 last, .slice A l.length c] 27)) := Grew.alloc _ _
  cases b with
  | false =>
    have hres : R = ⟨#[]⟩ := by rw [hR]; unfold digP; rw [hb]; rfl
    subst hres
    clear hR hb hr
    go_enter Try.func20, Try.ntmps20
    go_wp2_with fail
    refine (HM.out _ hgw).mono ?_
    rintro e w2 ⟨_, rfl, rfl, hg2⟩
    go_wp2_with fail
    go_ret
    exact ⟨_, rfl, rfl, Grew.trans hgw hg2⟩
  | true =>
    have hm := mayR hb
    have hres : R = strOfNums (chainE (bytesOf a) l) := by rw [hR]; unfold digP; rw [hb]; rfl
    have hlen := hm.len
    have hsz := hm.sz
    have HCH := Lib.hid (fun w' (h : Grew w w') => achain_c w' (bytesOf a) A l.length c l (Kd.C_below hr h) rfl hc (by omega) (bytesOf_bytes a) (by rw [bytesOf_length]; omega) hm.good)
    rw [str_bytes, ← hres] at HCH
    have k0 := (Blk.new w 27 [.string a, .int .i64 last, .slice A l.length c])
    have HK := Lib.hid (fun wx (h : Grew (w.alloc (.cells #[.string a, .int .i64 last, .slice A l.length c] 27)) wx) => (k0.grew h).at_)
    clear hR hb hr hm hres hlen hsz k0
    go_enter Try.func20, Try.ntmps20
    go_wp2_with fail
    refine (HM.out _ hgw).mono ?_
    rintro e w2 ⟨_, rfl, rfl, hg2⟩
    have k0 := HK.out w2 hg2 0
    have k2 := HK.out w2 hg2 2
    simp only [List.getElem?_cons_zero, List.getElem?_cons_succ] at k0 k2
    go_wp2_with fail
    refine (HCH.out _ (Grew.trans hgw hg2)).mono ?_
    rintro e w3 ⟨_, rfl, rfl, hg3⟩
    go_wp2_with fail
    go_ret
    exact ⟨_, rfl, rfl, Grew.trans (Grew.trans hgw hg2) hg3⟩
end Go.Proofs.Ytmifoihfpjomaaa.F

-- RowO
namespace Go.Proofs.Ytmifoihfpjomaaa.F
open Go Go.RowKit Go.Proofs.YtmifoihfpjomaaaW.PrintWords Go.Proofs.YtmifoihfpjomaaaW.PrintLast Go.Proofs.YtmifoihfpjomaaaW.PrintMore Go.Proofs.YtmifoihfpjomaaaR
set_option linter.unusedSimpArgs false
set_option linter.unusedVariables false
/-- v is a row of n elements with these cells, in a block of its own that lies from base on -/
def RowO (w : World) (base : Nat) (e : TypeId) (size : Nat) (v : Value) (n : Nat) (xs : List Value) : Prop :=
  xs.length = n * size ∧ ((v = .slice none 0 0 ∧ n = 0) ∨ ∃ g o cap cur, v = .slice (some ⟨g, o, none⟩) n cap ∧ base ≤ g ∧ w.heap[g]? = some (.cells cur e (0, 0)) ∧ n ≤ cap ∧ cap ≤ maxLen ∧ o + cap * size ≤ cur.size ∧ (cur.toList.drop o).take (n * size) = xs)
section
variable {w w' : World} {base : Nat} {e : TypeId} {size : Nat} {v : Value} {n : Nat} {xs : List Value}
theorem rowO_of_own (h : w.ownsRow base e size v n xs) : RowO w base e size v n xs := by
  refine ⟨h.1, h.2.imp id fun ⟨g, cap, cur, h1, h2, h3, h4, h5, h6, h7⟩ => ⟨g, 0, cap, cur, h1, h2, h3, h4, h5, by omega, by simpa using h7⟩⟩
theorem RowO.slice (h : RowO w base e size v n xs) : ∃ A c, v = .slice A n c ∧ n ≤ c := by
  rcases h.2 with ⟨rfl, rfl⟩ | ⟨g, o, cap, cur, rfl, _, _, hn, _⟩
  · exact ⟨none, 0, rfl, Nat.le_refl _⟩
  · exact ⟨_, cap, rfl, hn⟩
theorem RowO.base_ (h : RowO w base e size v n xs) (k : Nat) (hk : v.ownBlock = some k) : base ≤ k := by
  rcases h.2 with ⟨rfl, _⟩ | ⟨g, o, cap, cur, rfl, hb, _⟩
  · simp [Value.ownBlock] at hk
  · have : g = k := by simpa [Value.ownBlock] using hk
    omega
theorem RowO.lt (h : RowO w base e size v n xs) (k : Nat) (hk : v.ownBlock = some k) : k < w.heap.size := by
  rcases h.2 with ⟨rfl, _⟩ | ⟨g, o, cap, cur, rfl, hb, hh, _⟩
  · simp [Value.ownBlock] at hk
  · have : g = k := by simpa [Value.ownBlock] using hk
    subst this
    exact blk_lt hh
theorem RowO.move (h : RowO w base e size v n xs) (hm : ∀ k, v.ownBlock = some k → w'.heap[k]? = w.heap[k]?) : RowO w' base e size v n xs := by
  refine ⟨h.1, h.2.imp id fun ⟨g, o, cap, cur, h1, h2, h3, h4⟩ => ⟨g, o, cap, cur, h1, h2, ?_, h4⟩⟩
  rw [hm g (by rw [h1]; rfl)]; exact h3
theorem RowO.upd {S : Nat → Prop} (h : RowO w base e size v n xs) (hu : Upd S w w') (hn : ∀ k, v.ownBlock = some k → ¬ S k) : RowO w' base e size v n xs :=
  h.move fun k hk => hu.block k (h.lt k hk) (hn k hk)
theorem RowO.grew (h : RowO w base e size v n xs) (hu : Grew w w') : RowO w' base e size v n xs := h.move fun k hk => hu.block k (h.lt k hk)
theorem RowO.less {b : Nat} (h : RowO w b e size v n xs) (hb : base ≤ b) : RowO w base e size v n xs :=
  ⟨h.1, h.2.imp id fun ⟨g, o, cap, cur, h1, h2, h3⟩ => ⟨g, o, cap, cur, h1, Nat.le_trans hb h2, h3⟩⟩
/-- its cells -/
theorem RowO.at_ (h : RowO w base e size v n xs) (hp : 0 < n) : ∃ g o cap, v = .slice (some ⟨g, o, none⟩) n cap ∧ n ≤ cap ∧ base ≤ g ∧ g < w.heap.size ∧ (∀ j, j < n * size → w.cell? ⟨g, o + j, none⟩ = xs[j]?) ∧ ∀ j, w.frozen? ⟨g, j, none⟩ = false := by
  rcases h.2 with ⟨rfl, h0⟩ | ⟨g, o, cap, cur, rfl, hb, hh, hnc, _, hs, hx⟩
  · omega
  · refine ⟨g, o, cap, rfl, hnc, hb, blk_lt hh, fun j hj => ?_, fun j => blk_frozen hh j⟩
    rw [blk_cell hh, ← hx, List.getElem?_take_of_lt hj, List.getElem?_drop, Array.getElem?_toList]
/-- a store into it -/
theorem RowO.set (h : RowO w base e size v n xs) {g o cap : Nat} (hv : v = .slice (some ⟨g, o, none⟩) n cap) (j : Nat) (hj : j < n * size) (u : Value) : RowO (w.setCell ⟨g, o + j, none⟩ u) base e size v n (xs.set j u) := by
  refine ⟨by rw [List.length_set]; exact h.1, ?_⟩
  rcases h.2 with ⟨h1, h0⟩ | ⟨g', o', cap', cur, h1, hb, hh, hnc, hm, hs, hx⟩
  · subst h0; simp at hj
  · rw [hv] at h1
    injection h1 with h1 h2 h3
    injection h1 with h1
    injection h1 with h1 h4
    subst h1 h3 h4
    refine .inr ⟨g, o, cap, cur.setIfInBounds (o + j) u, hv, hb, ?_, hnc, hm, by simpa using hs, ?_⟩
    · exact blk_set hh (o + j) u
    · rw [Array.toList_setIfInBounds, ← hx, List.drop_set, if_neg (by omega), Nat.add_sub_cancel_left, List.take_set]
end
/-- one element, of some cells in a block of its own, behind a row of one's own -/
theorem app_rowO {P : Program} (W : World) (base : Nat) (t e ty : TypeId) (z : Value) (size bytes : Nat) (ht : P.underlying t = some (.slice e)) (hinfo : (P.info? e).map (fun i => (i.zero, i.size, i.bytes)) = some (some z, size, bytes)) (hz : z.cells.size = size) (hs0 : 0 < size) (hb0 : 0 < bytes)
    (v : Value) (n : Nat) (xs : List Value) (g1 : Nat) (cs : List Value) (hcs : cs.length = size) (h1 : ∀ u ∈ cs, u.oneCell' = true) (HO : RowO W base e size v n xs) (HB : Blk W g1 e cs) (hbase : base ≤ W.heap.size) (hl : (n + 1) * bytes ≤ 140737488355328) :
    ∃ v1 w1, (Builtin.append_ #[t, t] ty #[v, .slice (some ⟨g1, 0, none⟩) 1 1]).run P W = .ok v1 w1 ∧ RowO w1 base e size v1 (n + 1) (xs ++ cs) ∧ W.grownBy w1 v.ownBlock ∧ (v1.ownBlock = v.ownBlock ∨ ∃ k, v1.ownBlock = some k ∧ W.heap.size ≤ k) := by
  obtain ⟨i0, hi, hzz⟩ := Option.map_eq_some_iff.1 hinfo
  simp only [Prod.mk.injEq] at hzz
  obtain ⟨hz0, hz1, hz2⟩ := hzz
  subst hz1
  subst hz2
  have hlen : n + 1 ≤ 140737488355328 := Nat.le_trans (Nat.le_mul_of_pos_right _ hb0) hl
  have hnews : ∀ j u, cs[j]? = some u → W.cell? ((⟨g1, 0, none⟩ : Addr).add j) = some u := fun j u hu => by rw [add_plain, HB.at_]; simpa using hu
  have hl2 : (xs ++ cs).length = (n + 1) * i0.size := by rw [List.length_append, HO.1, hcs, Nat.add_mul, Nat.one_mul]
  rcases HO.2 with ⟨rfl, rfl⟩ | ⟨g, o, cap, cur, rfl, hbg, hg, hnc, hcm, hcs2, htake⟩
  · obtain ⟨v1, w1, hr, h2, h3, h4⟩ := app_cells (P := P) W base t e ty z i0.size i0.bytes ht hinfo hz hs0 hb0 (.slice none 0 0) 0 xs g1 cs hcs h1 ⟨HO.1, .inl ⟨rfl, rfl⟩⟩ HB hbase hl
    exact ⟨v1, w1, hr, rowO_of_own h2, h3, h4⟩
  · by_cases hroom : n + 1 ≤ cap
    · have hmul := Nat.mul_le_mul_right i0.size hroom
      have hfit : o + n * i0.size + 0 + cs.length ≤ cur.size := by rw [hcs]; rw [Nat.add_mul, Nat.one_mul] at hmul; omega
      have hf := run_firstCells_some (P := P) W i0.size 1 ⟨g1, 0, none⟩ 1 1 cs (by rw [hcs]; simp) hnews
      have hst := run_storeCells_at P g (o + n * i0.size) e cs 0 cur W hg hfit h1
      simp only [Nat.add_zero] at hst
      refine ⟨.slice (some ⟨g, o, none⟩) (n + 1) cap, W.setRow g (cur.toList.take (o + n * i0.size) ++ cs ++ cur.toList.drop (o + n * i0.size + cs.length)).toArray, ?_, ⟨hl2, .inr ⟨g, o, cap, _, rfl, hbg, setRow_heap W g cur _ e _ hg, hroom, hcm, ?_, ?_⟩⟩, ⟨rfl, rfl, rfl, by simp, fun k _ hk => setRow_other W g k _ (fun e => hk (by simp [Value.ownBlock, e]))⟩, .inl rfl⟩
      · have e9 : (⟨g, o, none⟩ : Addr).add (n * i0.size) = ⟨g, o + n * i0.size, none⟩ := by simp [Addr.add]
        simp [Builtin.append_, run_underlying ht, sizeOf, typeInfo, hi, Builtin.lenOf, hroom, hf, e9, hst]
      · simp only [List.size_toArray, List.length_append, List.length_take, List.length_drop, Array.length_toList]
        omega
      · have hh : (List.take (o + n * i0.size) cur.toList).length = o + n * i0.size := by rw [List.length_take, Array.length_toList]; omega
        rw [List.append_assoc, List.drop_append_of_le_length (by rw [hh]; omega), ← List.append_assoc, List.drop_take, Nat.add_sub_cancel_left, htake, ← hl2]
        exact List.take_left
    · have holds : ∀ j u, xs[j]? = some u → W.cell? ((⟨g, o, none⟩ : Addr).add j) = some u := fun j u hu => by
        have hj : j < n * i0.size := by
          rcases Nat.lt_or_ge j xs.length with h | h
          · rw [HO.1] at h; exact h
          · rw [List.getElem?_eq_none h] at hu; cases hu
        rw [show (⟨g, o, none⟩ : Addr).add j = ⟨g, o + j, none⟩ from by simp [Addr.add], blk_cell hg, ← hu, ← htake, List.getElem?_take_of_lt hj, List.getElem?_drop, Array.getElem?_toList]
      have hr := run_append_grow (P := P) W t ty e i0 z ht hi hz0 ⟨g, o, none⟩ n cap xs HO.1 holds ⟨g1, 0, none⟩ 1 1 cs (by rw [hcs]; simp) hnews (by omega) (by omega) (growslice_fits (by omega) hl)
      have hge := grownCap_ge W (n + 1) cap e
      have hcm2 : grownCap W (n + 1) cap e ≤ maxLen := grownCap_le_maxLen W (n + 1) cap e (by unfold maxLen; omega)
      refine ⟨_, _, hr, ⟨hl2, .inr ⟨W.heap.size, 0, _, _, rfl, hbase, heap_alloc_new W.drew _, hge, hcm2, ?_, ?_⟩⟩, ⟨rfl, rfl, rfl, by simp, fun k hk _ => Below.heap_alloc W.drew _ k hk⟩, .inr ⟨_, rfl, Nat.le_refl _⟩⟩
      · simp only [Array.size_append, List.size_toArray, size_zeroCells, hz, HO.1, hcs]
        have : (n + 1) * i0.size = n * i0.size + i0.size := by rw [Nat.add_mul, Nat.one_mul]
        have h9 : grownCap W (n + 1) cap e * i0.size = (n + 1) * i0.size + (grownCap W (n + 1) cap e - (n + 1)) * i0.size := by rw [← Nat.add_mul]; congr 1; omega
        omega
      · simp only [Array.toList_append, List.append_assoc, List.drop_zero]
        rw [← List.append_assoc, ← hl2]
        exact List.take_left
end Go.Proofs.Ytmifoihfpjomaaa.F

-- RegB
namespace Go.Proofs.YtmifoihfpjomaaaR
open Go Go.RowKit
section
variable (P : Program) (Q : Exit → Act → World → Prop) (R Rp : World → World → Prop) (V : Nat → World → Value → Prop) (a0 : Act) (w0 : World) (E : Act → World → Prop)
def PhGoalF (o : Oper) (g : GuardT) (i : Nat) (r : Reads) : Phase → Prop
  | .plain => ∀ a w, R w0 w → Deps V a0 a w r → OpGoal P Q R V o g i a w
  | .float => ∀ a w, (R w0 w ∨ ∃ w1, R w0 w1 ∧ Rp w1 w) → Deps V a0 a w r → OpGoal P Q (fun w w' => w' = w) V o g i a w
  | .big => o.guard = none ∧ ∀ a w, R w0 w → Deps V a0 a w r → ∀ K : Act → World → Prop, (∀ v w', Rp w w' → V i w' v → K (a.put o.dst v) w') → o.wp P a w K Q
def PhHoldF : Nat → List Oper → List (Reads × GuardT) → List Phase → Prop
  | i, o :: os, (r, g) :: rs, k :: ks => PhGoalF P Q R Rp V a0 w0 o g i r k ∧ PhHoldF (i + 1) os rs ks
  | _, _, _, _ => True
end

section
variable {P : Program} {ops : Array Oper} {Q : Exit → Act → World → Prop} {R Rp : World → World → Prop} {V : Nat → World → Value → Prop} {a0 : Act} {w0 : World} {E : Act → World → Prop}
theorem phHold_atF : ∀ (os : List Oper) (rs : List (Reads × GuardT)) (ks : List Phase) (k i : Nat) (o : Oper) (r : Reads) (g : GuardT) (p : Phase), PhHoldF P Q R Rp V a0 w0 k os rs ks → os[i]? = some o → rs[i]? = some (r, g) → ks[i]? = some p →
    PhGoalF P Q R Rp V a0 w0 o g (k + i) r p
  | [], _, _, _, i, o, r, g, p, _, ho, _, _ => by simp at ho
  | o' :: os, [], _, _, i, o, r, g, p, _, _, hr, _ => by simp at hr
  | o' :: os, (r', g') :: rs, [], _, i, o, r, g, p, _, _, _, hk => by simp at hk
  | o' :: os, (r', g') :: rs, p' :: ks, k, 0, o, r, g, p, h, ho, hr, hk => by
    simp at ho hr hk
    obtain ⟨rfl, rfl⟩ := hr
    subst ho
    subst hk
    exact h.1
  | o' :: os, (r', g') :: rs, p' :: ks, k, i + 1, o, r, g, p, h, ho, hr, hk => by
    have := phHold_atF os rs ks (k + 1) i o r g p h.2 (by simpa using ho) (by simpa using hr) (by simpa using hk)
    rw [show k + 1 + i = k + (i + 1) from by omega] at this
    exact this
theorem wpAny_invF {A : List Nat} {reads : List (Reads × GuardT)} {ks : List Phase} (hA : edgesOk ops A = true) (hP : pairsOk ops A = true) (hR : readsOk ops reads a0.tmps.size = true) (hT : tailOk ops A reads.length = true)
    (hrf : ∀ w, R w w) (htr : ∀ a b c, R a b → R b c → R a c) (hK : phaseOk A ks reads.length = true)
    (hst : ∀ i, ks[i]? ≠ some .big → ∀ w w' v, R w w' ∨ Rp w w' → V i w v → V i w' v)
    (hops : PhHoldF P Q R Rp V a0 w0 0 ops.toList reads ks)
    (hend : ∀ listed a w, (∀ j, listed.getD j false = decide (j < reads.length)) → InvB ops reads.length R Rp V ks a0 w0 listed a w → wpList P ops Q (ops.toList.drop reads.length) a w) :
    ∀ (fuel : Nat) (listed : Array Bool) (a : Act) (w : World), listed.toList.count false ≤ fuel → InvB ops reads.length R Rp V ks a0 w0 listed a w → wpAny P .any ops Q fuel listed a w := by
  have hT0 := hT
  simp only [tailOk, Bool.and_eq_true, decide_eq_true_eq, List.all_eq_true, Bool.or_eq_true, List.mem_range] at hT0
  -- when all of the head has come up
  have fin : ∀ (fuel : Nat) (listed : Array Bool) (a : Act) (w : World), listed.toList.count false ≤ fuel → InvB ops reads.length R Rp V ks a0 w0 listed a w → (∀ j, j < reads.length → listed.getD j false = true) → wpAny P .any ops Q fuel listed a w := by
    intro fuel listed a w hf hi hall
    have hl : ∀ j, listed.getD j false = decide (j < reads.length) := by
      intro j
      rcases Nat.lt_or_ge j reads.length with h | h
      · rw [hall j h]; simp [h]
      · rw [hi.tail j h]; simp; omega
    refine wpAny_tail hA hT fuel reads.length listed a w (Nat.le_refl _) ?_ hT0.1 hi.lsize hl (hend listed a w hl hi)
    -- those that are not listed are as many as the tail is long
    have : (listed.toList.drop reads.length).count false = listed.size - reads.length := by
      have h1 : listed.toList.drop reads.length = List.replicate (listed.size - reads.length) false := by
        refine List.ext_getElem (by simp) fun j h1 h2 => ?_
        simp only [List.getElem_drop, List.getElem_replicate]
        have h3 : reads.length + j < listed.size := by simp at h1; omega
        have h4 := hi.tail (reads.length + j) (by omega)
        simpa [h3] using h4
      rw [h1, List.count_replicate_self]
    have h2 : (listed.toList.drop reads.length).count false ≤ listed.toList.count false := List.Sublist.count_le _ (List.drop_sublist _ _)
    have := hi.lsize
    omega
  -- before that, nothing of the tail may come up
  have low : ∀ (listed : Array Bool), listed.size = ops.size → Closed ops listed → ∀ i, i ∈ Region.ready .any ops listed → reads.length ≤ i → ∀ j, j < reads.length → listed.getD j false = true := by
    intro listed hs hc i hi hm j hj
    obtain ⟨hun, o, ho, hd⟩ := mem_ready.1 hi
    have hisz := (Array.getElem?_eq_some_iff.1 ho).1
    exact closed_anc hA hc i o ho hd j ((hT0.2 i hisz).resolve_left (by omega) j (by omega))
  intro fuel
  induction fuel with
  | zero =>
    intro listed a w hf hi
    refine fin 0 listed a w hf hi fun j hj => ?_
    have hjs : j < listed.size := by have := hi.lsize; omega
    cases hl : listed.getD j false with
    | true => rfl
    | false =>
      exfalso
      have hv : listed[j] = false := by simpa [hjs] using hl
      have : 0 < listed.toList.count false := List.count_pos_iff.2 (by rw [← hv]; simp)
      omega
  | succ fuel ih =>
    intro listed a w hf hi
    by_cases hall : ∀ j, j < reads.length → listed.getD j false = true
    · exact fin (fuel + 1) listed a w hf hi hall
    refine ⟨fun h => absurd (fun j hj => all_of_ready rfl hA hi.lsize h j (by omega)) hall, fun i hir => ?_⟩
    have him : i < reads.length := by
      rcases Nat.lt_or_ge i reads.length with h | h
      · exact h
      · exact absurd (low listed hi.lsize hi.closed i hir h) hall
    obtain ⟨hun, o, ho, hdeps⟩ := mem_ready.1 hir
    have hisz : i < ops.size := (Array.getElem?_eq_some_iff.1 ho).1
    have hun' : listed.getD i false = false := by rw [getD_irrel (by rw [hi.lsize]; exact hisz) false true]; exact hun
    simp only [readsOk, List.all_eq_true] at hR
    have hRi := hR i (List.mem_range.2 him)
    have hri : reads[i]? = some (reads[i]'(by omega)) := List.getElem?_eq_getElem (by omega)
    generalize hrg : reads[i]'(by omega) = rg at hri
    obtain ⟨r, g⟩ := rg
    rw [ho, hri] at hRi
    simp only [Bool.and_eq_true, List.all_eq_true] at hRi
    obtain ⟨⟨hr, hdst⟩, hg⟩ := hRi
    -- ancestors of i are listed; descendants are not
    have hanc : ∀ k, (A.getD i 0).testBit k = true → listed.getD k false = true := closed_anc hA hi.closed i o ho hdeps
    have hdesc : ∀ j oj, ops[j]? = some oj → (A.getD j 0).testBit i = true → listed.getD j false = false := by
      intro j oj hoj hb
      cases hl : listed.getD j false with
      | false => rfl
      | true =>
        have := closed_anc hA hi.closed j oj hoj (hi.closed j oj hoj hl) i hb
        rw [this] at hun'; cases hun'
    have pair : ∀ i' j' oi' oj', i' < j' → ops[i']? = some oi' → ops[j']? = some oj' → (A.getD j' 0).testBit i' = true ∨ ((∀ t, oi'.dst = some t → t ∉ names ops oj') ∧ ∀ t, oj'.dst = some t → t ∉ oi'.looksAt ops) := by
      intro i' j' oi' oj' hlt hoi hoj
      have h1 := List.all_eq_true.1 hP j' (List.mem_range.2 (Array.getElem?_eq_some_iff.1 hoj).1)
      simp only [hoj, List.all_eq_true, List.mem_range] at h1
      have h2 := h1 i' hlt
      simp only [hoi, Bool.or_eq_true, Bool.and_eq_true] at h2
      rcases h2 with h2 | ⟨h2, h3⟩
      · exact .inl h2
      · refine .inr ⟨fun t ht => ?_, fun t ht => ?_⟩
        · simp [ht] at h2; exact h2
        · simp [ht] at h3; exact h3
    -- the writers that are listed of what i looks at are those ahead of it
    have hlook : ∀ t ∈ o.looksAt ops, lastW ops (fun j => listed.getD j false) t = lastW ops (fun j => decide (j < i)) t := by
      intro t ht
      refine lastW_congr fun j oj hoj hd => ?_
      rcases Nat.lt_trichotomy j i with hlt | rfl | hgt
      · have := (pair j i oj o hlt hoj ho).resolve_right (fun h => h.1 t hd (List.mem_append_right _ ht))
        simp [hlt, hanc j this]
      · simp [hun']
      · have := (pair i j o oj hgt ho hoj).resolve_right (fun h => h.2 t hd ht)
        rw [hdesc j oj hoj this]
        symm; simp; omega
    have hD : Deps V a0 a w r := by
      refine deps_of a w r fun ⟨t, j⟩ hx => ?_
      have h1 := hr (t, j) hx
      simp only [beq_iff_eq, List.contains_iff_mem] at h1
      have h2 := hi.tmps t
      rw [hlook t h1.1, h1.2] at h2
      cases j <;> exact h2
    simp only [phaseOk, Bool.and_eq_true, beq_iff_eq, List.all_eq_true, List.mem_range] at hK
    have hki : ks[i]? = some (ks[i]'(by omega)) := List.getElem?_eq_getElem (by omega)
    generalize hkk : ks[i]'(by omega) = kd at hki
    have hgoal := phHold_atF ops.toList reads ks 0 i o r g kd hops (by simpa using ho) hri hki
    rw [Nat.zero_add] at hgoal
    have big_all : ∀ p, ks[p]? = some .big → ∀ j, j < reads.length → j ≠ p → ks[j]? = some .float ∨ (A.getD p 0).testBit j = true := by
      intro p hp j hj hne
      have hpl : p < reads.length := by
        have := (List.getElem?_eq_some_iff.1 hp).1
        omega
      have := hK.2 p hpl
      rw [hp] at this
      simp only [List.all_eq_true, List.mem_range, Bool.or_eq_true, beq_iff_eq] at this
      rcases this j hj with (h | h) | h
      · exact absurd h hne
      · exact .inl h
      · exact .inr h
    have noBig : kd ≠ .float → ¬ BigIn ks listed := by
      rintro hne ⟨p, hp, hl⟩
      by_cases hip : i = p
      · subst hip; rw [hun'] at hl; cases hl
      · rcases big_all p hp i him hip with h | h
        · rw [hki] at h; exact hne (Option.some.inj h)
        · have hpo : p < ops.size := by
            rcases Nat.lt_or_ge p ops.size with h' | h'
            · exact h'
            · rw [show listed.getD p false = false from by simp [Array.getElem?_eq_none (show listed.size ≤ p by rw [hi.lsize]; exact h')]] at hl; cases hl
          have := closed_anc hA hi.closed p _ (Array.getElem?_eq_getElem hpo) (hi.closed p _ (Array.getElem?_eq_getElem hpo) hl) i h
          rw [this] at hun'; cases hun'
    have bigSet : ∀ {k : Phase}, kd = k → k ≠ .big → (BigIn ks (listed.setIfInBounds i true) ↔ BigIn ks listed) := by
      intro k hk hne
      constructor
      · rintro ⟨p, hp, hl⟩
        by_cases hip : i = p
        · subst hip; rw [hki] at hp; exact absurd (hk.symm.trans (Option.some.inj hp)) hne
        · rw [getD_set_other _ hip] at hl; exact ⟨p, hp, hl⟩
      · rintro ⟨p, hp, hl⟩
        by_cases hip : i = p
        · subst hip; rw [hun'] at hl; cases hl
        · exact ⟨p, hp, by rw [getD_set_other _ hip]; exact hl⟩
    have notBig : ∀ j, listed.getD j false = true → ¬ BigIn ks listed → ks[j]? ≠ some .big := fun j hl hb h => hb ⟨j, h, hl⟩
    -- behind operation i
    have next : ∀ v w', (∀ j, j ≠ i → listed.getD j false = true → ∀ u, V j w u → V j w' u) → (¬ BigIn ks (listed.setIfInBounds i true) → R w0 w') → (BigIn ks (listed.setIfInBounds i true) → ∃ w1, R w0 w1 ∧ Rp w1 w') → V i w' v → wpAny P .any ops Q fuel (listed.setIfInBounds i true) (a.put o.dst v) w' := by
      intro v w' hww he hl hv
      refine ih _ _ _ (unlisted_set hun fuel hf) ⟨he, hl, ?_, ?_, by simp [hi.lsize], ?_, fun j hj => ?_, ?_⟩
      · cases hd : o.dst <;> simp [Act.put, hi.size]
      · cases hd : o.dst <;> simp [Act.put, hi.defers]
      · intro j oj hoj hl e he hb
        by_cases hji : i = j
        · subst hji
          rw [ho] at hoj
          obtain rfl := Option.some.inj hoj
          by_cases hei : i = e.on
          · rw [← hei]; exact getD_set_self (by rw [hi.lsize]; exact hisz) _
          · rw [getD_set_other _ hei]; exact hdeps e he hb
        · rw [getD_set_other _ hji] at hl
          by_cases hei : i = e.on
          · rw [← hei]; exact getD_set_self (by rw [hi.lsize]; exact hisz) _
          · rw [getD_set_other _ hei]; exact hi.closed j oj hoj hl e he hb
      · rw [getD_set_other _ (by omega)]; exact hi.tail j hj
      · intro t
        by_cases hd : o.dst = some t
        · rw [lastW_set ho hd (p := fun j => (listed.setIfInBounds i true).getD j false) (getD_set_self (by rw [hi.lsize]; exact hisz) _) (fun j oj hoj hdj hlt => by
            have := (pair i j o oj hlt ho hoj).resolve_right (fun h => h.1 t hd (by simp [names, hdj]))
            rw [getD_set_other _ (by omega)]
            exact hdesc j oj hoj this)]
          have htn : t < a.tmps.size := by rw [hi.size]; simpa [hd] using hdst
          simp only [hd, Act.put]
          simpa [htn] using hv
        · rw [lastW_congr (q := fun j => listed.getD j false) (fun j oj hoj hdj => by
            by_cases hji : i = j
            · subst hji; rw [ho] at hoj; obtain rfl := Option.some.inj hoj; exact absurd hdj hd
            · exact getD_set_other _ hji)]
          have h2 := hi.tmps t
          have same : (a.put o.dst v).tmps[t]?.getD undef = a.tmps[t]?.getD undef := by
            cases hdd : o.dst with
            | none => rfl
            | some d =>
              have hne : d ≠ t := fun e => hd (by rw [hdd, e])
              simp [Act.put, Array.getElem?_setIfInBounds_ne hne]
          rw [same]
          revert h2
          cases hlw : lastW ops (fun j => listed.getD j false) t with
          | none => exact id
          | some j =>
            have hlj := lastW_listed hlw
            refine hww j ?_ hlj _
            intro e
            subst e
            rw [hun'] at hlj
            cases hlj
    unfold wpOp
    simp only [ho]
    cases kd with
    | big =>
      obtain ⟨hgn, hgoal⟩ := hgoal
      have hnb := noBig (by simp)
      rw [if_pos (by simp [Region.wanted, hgn])]
      refine .inl (hgoal a w (hi.early hnb) hD _ fun v w' hrp hv => ?_)
      have hbig : BigIn ks (listed.setIfInBounds i true) := ⟨i, hki, getD_set_self (by rw [hi.lsize]; exact hisz) _⟩
      exact next v w' (fun j _ hl u hu => hst j (notBig j hl hnb) w w' u (.inr hrp) hu) (fun h => absurd hbig h) (fun _ => ⟨w, hi.early hnb, hrp⟩) hv
    | plain =>
      have hnb := noBig (by simp)
      have hgoal := hgoal a w (hi.early hnb) hD
      have hs := bigSet rfl (by simp)
      have nx : ∀ v w', R w w' → V i w' v → wpAny P .any ops Q fuel (listed.setIfInBounds i true) (a.put o.dst v) w' := fun v w' hr hv =>
        next v w' (fun j _ hl u hu => hst j (notBig j hl hnb) w w' u (.inl hr) hu) (fun _ => htr _ _ _ (hi.early hnb) hr) (fun h => absurd (hs.1 h) hnb) hv
      cases hgg : o.guard with
      | none =>
        rw [hgg] at hg
        cases g with
        | some _ => simp at hg
        | none =>
          rw [if_pos (by simp [Region.wanted, hgg])]
          exact .inl (hgoal _ nx)
      | some kw =>
        obtain ⟨k, want⟩ := kw
        rw [hgg] at hg
        cases g with
        | none => simp at hg
        | some tw =>
          obtain ⟨t, want'⟩ := tw
          simp only [Bool.and_eq_true, beq_iff_eq] at hg
          obtain ⟨rfl, hk⟩ := hg
          have hw := wanted_iff (a := a) hgg hk
          by_cases hv : a.tmps[t]?.getD undef = .bool want
          · rw [if_pos (hw.2 hv)]
            exact .inl (hgoal.1 hv _ nx)
          · rw [if_neg (fun h => hv (hw.1 h))]
            exact nx undef w (hrf w) (hgoal.2 hv)
    | float =>
      have hgoal := hgoal a w (by
        by_cases hbi : BigIn ks listed
        · exact .inr (hi.late hbi)
        · exact .inl (hi.early hbi)) hD
      have hs := bigSet rfl (by simp)
      have nx : ∀ v w', w' = w → V i w' v → wpAny P .any ops Q fuel (listed.setIfInBounds i true) (a.put o.dst v) w' := fun v w' hr hv => by
        subst hr
        exact next v w' (fun j _ _ u hu => hu) (fun h => hi.early (fun hb => h (hs.2 hb))) (fun h => hi.late (hs.1 h)) hv
      cases hgg : o.guard with
      | none =>
        rw [hgg] at hg
        cases g with
        | some _ => simp at hg
        | none =>
          rw [if_pos (by simp [Region.wanted, hgg])]
          exact .inl (hgoal _ nx)
      | some kw =>
        obtain ⟨k, want⟩ := kw
        rw [hgg] at hg
        cases g with
        | none => simp at hg
        | some tw =>
          obtain ⟨t, want'⟩ := tw
          simp only [Bool.and_eq_true, beq_iff_eq] at hg
          obtain ⟨rfl, hk⟩ := hg
          have hw := wanted_iff (a := a) hgg hk
          by_cases hv : a.tmps[t]?.getD undef = .bool want
          · rw [if_pos (hw.2 hv)]
            exact .inl (hgoal.1 hv _ nx)
          · rw [if_neg (fun h => hv (hw.1 h))]
            exact nx undef w rfl (hgoal.2 hv)
end

section
variable {P : Program} {Q : Exit → Act → World → Prop} {V : Nat → World → Value → Prop} {a0 : Act} {w0 : World} {E : Act → World → Prop}
theorem wp_region_bigF {id : Nat} {n : Nat} (ks : List Phase) (V : Nat → World → Value → Prop) (R Rp : World → World → Prop) (reads : List (Reads × GuardT)) (fin : List (Tmp × Nat)) {l : List Oper} (tail : List Oper) (hn : a0.tmps.size = n) (hk : regionOk l.toArray reads fin n = true) (hd : l.drop reads.length = tail) (hm : P.follows .mixedOrders = true)
    (hrf : ∀ w, R w w) (htr : ∀ a b c, R a b → R b c → R a c) (hK : phaseOk (mkAnc l) ks reads.length = true) (hb : ks.contains .big = true)
    (hst : ∀ i, ks[i]? ≠ some .big → ∀ w w' v, R w w' ∨ Rp w w' → V i w v → V i w' v)
    (hops : PhHoldF P Q R Rp V a0 w0.drew 0 l reads ks)
    (hend : EndHold (fun w w' => ∃ w1, R w w1 ∧ Rp w1 w') V w0.drew (wpList P l.toArray Q tail) (fun _ => True) fin a0) :
    (Code.region id l.toArray true).wp P Q a0 w0 := by
  subst hn
  subst hd
  simp only [regionOk, Bool.and_eq_true] at hk
  obtain ⟨⟨⟨⟨hA, hP⟩, hR⟩, hF⟩, hT⟩ := hk
  refine wp_region_any hm ?_
  refine wpAny_invF (Rp := Rp) (ks := ks) (w0 := w0.drew) hA hP hR hT hrf htr hK hst hops ?_ _ _ _ _ (Nat.le_trans List.count_le_length (by simp)) ⟨fun _ => hrf _, ?_, rfl, rfl, by simp, ?_, ?_, ?_⟩
  · intro listed a w hl hi
    simp only [finalOk, Bool.and_eq_true, List.all_eq_true, beq_iff_eq] at hF
    have hF2 : ∀ (j : Nat) (o : Oper) (t : Tmp), l.toArray[j]? = some o → j < reads.length → o.dst = some t → t ∈ fin.map (·.1) := by
      intro j o t ho hj hd
      have := hF.2 o (by
        have h1 : (l.take reads.length)[j]? = some o := by rw [List.getElem?_take_of_lt hj]; simpa using ho
        exact List.mem_of_getElem? h1)
      rw [hd] at this
      simpa using this
    have hlast : ∀ t, lastW l.toArray (fun j => listed.getD j false) t = lastW l.toArray (fun j => decide (j < reads.length)) t := fun t =>
      lastW_congr fun j o ho _ => hl j
    have e : fin.foldl (fun a' x => a'.put (some x.1) ((fun t => a.tmps[t]?.getD undef) x.1)) a0 = a := by
      have h := foldl_put (fun t => a.tmps[t]?.getD undef) fin a0
      have hd : (fin.foldl (fun a' x => a'.put (some x.1) ((fun t => a.tmps[t]?.getD undef) x.1)) a0).defers = a.defers := h.2.1.trans hi.defers.symm
      have ht : (fin.foldl (fun a' x => a'.put (some x.1) ((fun t => a.tmps[t]?.getD undef) x.1)) a0).tmps = a.tmps := by
        refine Array.ext_getElem? fun t => ?_
        rcases Nat.lt_or_ge t a0.tmps.size with hlt | hge
        · rw [h.2.2 t hlt]
          have hat : a.tmps[t]? = some (a.tmps[t]?.getD undef) := by
            have : t < a.tmps.size := by rw [hi.size]; exact hlt
            simp [this]
          by_cases hm : t ∈ fin.map (·.1)
          · rw [if_pos hm]; exact hat.symm
          · rw [if_neg hm]
            have h2 := hi.tmps t
            have hnone : lastW l.toArray (fun j => listed.getD j false) t = none := by
              unfold lastW
              rw [List.find?_eq_none]
              intro j _
              cases ho : l.toArray[j]? with
              | none => simp
              | some o =>
                by_cases hdo : o.dst = some t
                · rcases Nat.lt_or_ge j reads.length with hj | hj
                  · exact absurd (hF2 j o t ho hj hdo) hm
                  · simp only [hi.tail j hj]; simp
                · simp [hdo]
            rw [hnone] at h2
            rw [hat, h2]
            simp [hlt]
        · rw [Array.getElem?_eq_none (by rw [h.1]; exact hge), Array.getElem?_eq_none (by rw [hi.size]; exact hge)]
      generalize fin.foldl (fun a' x => a'.put (some x.1) ((fun t => a.tmps[t]?.getD undef) x.1)) a0 = z at hd ht
      cases z; cases a; simp_all
    have hbin : BigIn ks listed := by
      have hmem := List.contains_iff_mem.1 hb
      obtain ⟨p, hp⟩ := List.mem_iff_getElem?.1 hmem
      refine ⟨p, hp, ?_⟩
      rw [hl p]
      have h1 := (List.getElem?_eq_some_iff.1 hp).1
      have h2 := hK
      simp only [phaseOk, Bool.and_eq_true, beq_iff_eq] at h2
      simp; omega
    have := endHold_at (fun t => a.tmps[t]?.getD undef) w (hi.late hbin) fin _ a0 hend trivial (fun x hx => by
      have h1 := hF.1 x hx
      have h2 := hi.tmps x.1
      rw [hlast, h1] at h2
      exact h2)
    rw [e] at this
    exact this
  · rintro ⟨p, _, hp⟩
    exfalso
    rcases Nat.lt_or_ge p l.length with h | h
    · simp [h] at hp
    · simp [h] at hp
  · intro j o ho hl
    exfalso
    have hj : j < l.length := by simpa using (Array.getElem?_eq_some_iff.1 ho).1
    simp [hj] at hl
  · intro j _
    rcases Nat.lt_or_ge j l.length with h | h
    · simp [h]
    · simp [h]
  · intro t
    have : lastW l.toArray (fun j => (Array.replicate l.toArray.size false).getD j false) t = none := by
      unfold lastW
      rw [List.find?_eq_none]
      intro j hj
      have hj : j < l.length := by simpa using hj
      simp [hj]
    rw [this]


end

theorem region_bigF {P : Program} {Q : Exit → Act → World → Prop} {a0 : Act} {w0 : World} {id : Nat} {n : Nat} {l : List Oper} (Rp : World → World → Prop) (ks : List Phase) (Vs : List (World → Value → Prop)) (reads : List (Reads × GuardT)) (fin : List (Tmp × Nat))
    (hn : a0.tmps.size = n) (hk : regionOk l.toArray reads fin n = true) (hK : phaseOk (mkAnc l) ks reads.length = true) (hb : ks.contains .big = true) (hm : P.follows .mixedOrders = true) (hv : ks.length = Vs.length)
    (hst : StableB Grew Rp ks Vs)
    (hops : PhHoldF P Q Grew Rp (at_ Vs) a0 w0.drew 0 l reads ks)
    (hend : EndHold (fun w w' => ∃ w1, Grew w w1 ∧ Rp w1 w') (at_ Vs) w0.drew (Later (wpList P l.toArray Q (dropN reads l))) (fun _ => True) fin a0) :
    (Code.region id l.toArray true).wp P Q a0 w0 :=
  wp_region_bigF ks (at_ Vs) Grew Rp reads fin _ hn hk (dropN_eq reads l) hm Grew.refl (fun _ _ _ => Grew.trans) hK hb (stableB_at ks Vs hv hst) hops (endHold_later _ _ _ hend)
end Go.Proofs.YtmifoihfpjomaaaR

-- AudE
namespace Go.Proofs.Ytmifoihfpjomaaa.F
open Go Go.RowKit Go.Proofs.YtmifoihfpjomaaaW.PrintWords Go.Proofs.YtmifoihfpjomaaaW.PrintLast Go.Proofs.YtmifoihfpjomaaaW.PrintMore Go.Proofs.YtmifoihfpjomaaaM Go.Proofs.YtmifoihfpjomaaaR
attribute [local go_sem] max2_int min2_int max_two min_two
set_option linter.unusedSimpArgs false
set_option linter.unusedVariables false
set_option maxRecDepth 100000
def enc5 (e : En) : List Value := [.int .i64 e.f0, .int .i64 e.f1, .int .i64 e.f2, .string e.f3, .int .i64 e.f4]
def ens (l : List En) : List Value := l.flatMap enc5
theorem ens_snoc (l : List En) (e : En) : ens (l ++ [e]) = ens l ++ enc5 e := by simp [ens]
theorem ens_cons (e : En) (l : List En) : ens (e :: l) = enc5 e ++ ens l := by simp [ens]
theorem ens_len (l : List En) : (ens l).length = l.length * 5 := by
  induction l with
  | nil => rfl
  | cons x l ih => rw [ens_cons, List.length_append, ih, List.length_cons]; simp [enc5]; omega
theorem ens_at (l : List En) : ∀ (i : Nat) (e : En), l[i]? = some e → ∀ j, j < 5 → (ens l)[i * 5 + j]? = (enc5 e)[j]? := by
  induction l with
  | nil => intro i x h; simp at h
  | cons y l ih =>
    intro i e h j hj
    rw [ens_cons]
    cases i with
    | zero =>
      obtain rfl : y = e := by simpa using h
      rw [Nat.zero_mul, Nat.zero_add, List.getElem?_append_left (by simp [enc5]; omega)]
    | succ i =>
      rw [List.getElem?_append_right (by simp [enc5]; omega)]
      have := ih i e (by simpa using h) j hj
      rw [← this]
      congr 1
      simp [enc5]; omega
theorem ens_drop (l : List En) : ∀ m, (ens l).drop (m * 5) = ens (l.drop m) := by
  induction l with
  | nil => intro m; simp [ens]
  | cons y l ih =>
    intro m
    cases m with
    | zero => simp
    | succ m =>
      rw [ens_cons, show (m + 1) * 5 = 5 + m * 5 from by omega, ← List.drop_drop, show List.drop 5 (enc5 y ++ ens l) = ens l from rfl, ih m]
      rfl
theorem ens_one (l : List En) : ∀ u ∈ ens l, u.oneCell' = true := by
  intro u hu
  unfold ens at hu
  obtain ⟨x, -, hx⟩ := List.mem_flatMap.1 hu
  simp [enc5] at hx
  rcases hx with rfl | rfl | rfl | rfl | rfl <;> rfl
theorem enc5_one (e : En) : ∀ u ∈ enc5 e, u.oneCell' = true := by
  intro u hu
  simp [enc5] at hu
  rcases hu with rfl | rfl | rfl | rfl | rfl <;> rfl
/-- a row of one's own of entries is read -/
theorem rowO_C {w : World} {base n : Nat} {v : Value} {l : List En} (h : RowO w base 36 5 v n (ens l)) (hn : l.length = n) : ∃ A c, v = .slice A n c ∧ n ≤ c ∧ Kd.C k36 w A n l := by
  have hle := h.slice
  rcases h.2 with ⟨rfl, rfl⟩ | ⟨g, o, cap, cur, rfl, hb, hh, hnc, hcm, hs, hx⟩
  · refine ⟨none, 0, rfl, Nat.le_refl _, hn, by omega, fun hp => absurd hp (by omega)⟩
  · refine ⟨_, cap, rfl, hnc, hn, by unfold maxLen at hcm; omega, fun hp => ⟨_, rfl, fun j p hj => ⟨enc5 p, rfl, ?_, fun i u hu => ?_⟩⟩⟩
    · exact k36_mk w p
    · have hi : i < 5 := (List.getElem?_eq_some_iff.1 hu).1
      have hjl := (List.getElem?_eq_some_iff.1 hj).1
      obtain ⟨g', o', cap', hv, _, _, _, hcell, _⟩ := h.at_ hp
      injection hv with hv1 hv2 hv3
      injection hv1 with hv1
      injection hv1 with hv1 hv4
      subst hv1 hv4
      have := hcell (j * 5 + i) (by omega)
      rw [ens_at l j p hj i hi, hu] at this
      rw [← this]
      show w.cell? (Addr.add ⟨g, o, none⟩ (j * 5 + i)) = _
      congr 1
      simp [Addr.add]
theorem C_ens {w : World} {A : Option Addr} {n : Nat} {l : List En} (h : Kd.C k36 w A n l) (hp : 0 < n) : ∃ ad, A = some ad ∧ ∀ j u, (ens l)[j]? = some u → w.cell? (ad.add j) = some u := by
  obtain ⟨hl, hm, hc⟩ := h
  obtain ⟨ad, hA, hcell⟩ := hc hp
  refine ⟨ad, hA, fun j u hu => ?_⟩
  have hj : j < l.length * 5 := by rw [← ens_len]; exact (List.getElem?_eq_some_iff.1 hu).1
  have hjl : j / 5 < l.length := by omega
  obtain ⟨c, hcs, hR, hcc⟩ := hcell (j / 5) _ (List.getElem?_eq_getElem hjl)
  obtain rfl := k36_open hR
  have h1 := ens_at l (j / 5) _ (List.getElem?_eq_getElem hjl) (j % 5) (Nat.mod_lt _ (by omega))
  rw [show j / 5 * 5 + j % 5 = j from by omega, hu] at h1
  have := hcc (j % 5) u h1.symm
  rw [show k36.sz = 5 from rfl] at this
  rw [show j / 5 * 5 + j % 5 = j from by omega] at this
  exact this
theorem infoEn : (Try.prog.info? 36).map (fun i => (i.zero, i.size, i.bytes)) = some (some (.agg #[.int .i64 0, .int .i64 0, .int .i64 0, .string ⟨#[]⟩, .int .i64 0]), 5, 48) := by kernel_rfl
theorem C_takeE {w : World} {A : Option Addr} {n m : Nat} {l : List En} (h : Kd.C k36 w A n l) (hm : m ≤ n) : Kd.C k36 w A m (l.take m) := by
  obtain ⟨hl, hx, hc⟩ := h
  refine ⟨by rw [List.length_take, hl]; omega, by omega, fun hp => ?_⟩
  obtain ⟨ad, hA, hcell⟩ := hc (by omega)
  refine ⟨ad, hA, fun j p hj => hcell j p ?_⟩
  rw [List.getElem?_take] at hj
  split at hj
  · exact hj
  · cases hj
/-- the entry as it is numbered, and the audit behind it -/
def nextE (last : Int) (e : En) : En := ⟨last + 1, e.f1, e.f2, e.f3, e.f4⟩
def addP (a : ByteArray) (last : Int) (l : List En) (e : En) : Option (ByteArray × List En) :=
  if mayP a last l && goodP (nextE last e) then some (if l.length = 8 then (strOfNums (sealL (bytesOf a) (bytesE (l.getD 0 z36))), l.drop 1 ++ [nextE last e]) else (a, l ++ [nextE last e])) else none
def zA : List Value := [.string ⟨#[]⟩, .int .i64 0, .slice none 0 0]
def AddV (base : Nat) (last : Int) : Option (ByteArray × List En) → World → Value → Prop
  | none => fun _ v => v = .tuple #[.agg #[.string ⟨#[]⟩, .int .i64 0, .slice none 0 0], .int .i64 1]
  | some r => fun w v => ∃ v0, v = .tuple #[.agg #[.string r.1, .int .i64 (last + 1), v0], .int .i64 0] ∧ RowO w base 36 5 v0 r.2.length (ens r.2)
/-- the row behind an append -/
def AppO (base : Nat) (e : TypeId) (size : Nat) (cs : List Value) (n : Nat) (vb : Value) (N : Nat) : World → Value → Prop := fun w v => RowO w base e size v n cs ∧ (v.ownBlock = vb.ownBlock ∨ ∃ k, v.ownBlock = some k ∧ N ≤ k)
theorem emptyE (w : World) (base : Nat) (hb : base ≤ w.heap.size) : (w.alloc (.cells #[] 36)).ownsRow base 36 5 (.slice (some ⟨w.heap.size, 0, none⟩) 0 0) 0 [] :=
  ⟨rfl, .inr ⟨w.heap.size, 0, #[], rfl, hb, Blk.new w 36 [], Nat.le_refl _, by unfold maxLen; omega, rfl, rfl⟩⟩
theorem zA_one (s : ByteArray) (i : Int) (A : Option Addr) (n c : Nat) : [Value.string s, .int .i64 i, .slice A n c].toArray.all (·.oneCell') = true := by simp [Value.oneCell']
end Go.Proofs.Ytmifoihfpjomaaa.F

-- AudG
namespace Go.Proofs.Ytmifoihfpjomaaa.F
open Go Go.RowKit Go.Proofs.YtmifoihfpjomaaaW.PrintWords Go.Proofs.YtmifoihfpjomaaaW.PrintLast Go.Proofs.YtmifoihfpjomaaaW.PrintMore Go.Proofs.YtmifoihfpjomaaaM Go.Proofs.YtmifoihfpjomaaaR
attribute [local go_sem] max2_int min2_int max_two min_two
set_option linter.unusedSimpArgs false
set_option linter.unusedVariables false
set_option maxRecDepth 100000
set_option maxHeartbeats 8000000 in
theorem add_c (a : ByteArray) (last : Int) (A : Option Addr) (c : Nat) (l : List En) (s t k : Int) (p : ByteArray) (x : Int) (w : World) (hr : Kd.C k36 w A l.length l) (hc : l.length ≤ c) :
    Calls Try.prog 18 #[.agg #[.string a, .int .i64 last, .slice A l.length c], .agg #[.int .i64 s, .int .i64 t, .int .i64 k, .string p, .int .i64 x]] w (Tells w (AddV w.heap.size last (addP a last l ⟨s, t, k, p, x⟩))) := by
  have HM := Lib.hid (fun w' (h : Grew w w') => may_c a last A c l w' (Kd.C_below hr h) hc)
  obtain ⟨W0, hW0⟩ : ∃ W0, W0 = ((w.alloc (.cells #[.string a, .int .i64 last, .slice A l.length c] 27)).alloc (.cells #[.int .i64 s, .int .i64 t, .int .i64 k, .string p, .int .i64 x] 36)).alloc (.cells #[.string ⟨#[]⟩, .int .i64 0, .slice none 0 0] 27) := ⟨_, rfl⟩
  obtain ⟨H, hH⟩ : ∃ H, H = w.heap.size := ⟨_, rfl⟩
  have hb2 : Blk W0 H 27 [.string a, .int .i64 last, .slice A l.length c] := by rw [hW0, hH]; exact ((Blk.new w _ _).grew (Grew.alloc _ _)).grew (Grew.alloc _ _)
  have hb3 : Blk W0 (H + 1) 36 [.int .i64 s, .int .i64 t, .int .i64 k, .string p, .int .i64 x] := by
    rw [hW0, hH]
    have := (Blk.new (w.alloc (.cells #[.string a, .int .i64 last, .slice A l.length c] 27)) 36 [.int .i64 s, .int .i64 t, .int .i64 k, .string p, .int .i64 x]).grew (Grew.alloc _ (.cells #[.string ⟨#[]⟩, .int .i64 0, .slice none 0 0] 27))
    simpa using this
  have hb4 : Blk W0 (H + 1 + 1) 27 zA := by
    rw [hW0, hH]
    have := Blk.new ((w.alloc (.cells #[.string a, .int .i64 last, .slice A l.length c] 27)).alloc (.cells #[.int .i64 s, .int .i64 t, .int .i64 k, .string p, .int .i64 x] 36)) 27 zA
    simpa [zA] using this
  have hgw : Grew w W0 := by rw [hW0]; exact ((Grew.alloc _ _).trans (Grew.alloc _ _)).trans (Grew.alloc _ _)
  have hWs : W0.heap.size = H + 1 + 1 + 1 := by rw [hW0, hH]; simp
  have HWE := Lib.hid hW0
  have HHE := Lib.hid hH
  have HB2 := Lib.hid (fun wx (h : Grew W0 wx) => hb2.grew h)
  have HB3 := Lib.hid (fun wx (h : Grew W0 wx) => hb3.grew h)
  have HB4 := Lib.hid (fun wx (h : Grew W0 wx) => hb4.grew h)
  have HGW := Lib.hid hgw
  have HWS := Lib.hid hWs
  have HRR := Lib.hid (fun w' (h : Grew w w') => Kd.C_below hr h)
  obtain ⟨n, hn⟩ : ∃ n, n = l.length := ⟨_, rfl⟩
  have HN := Lib.hid hn
  rw [← hn] at HM HB2 HRR hc ⊢
  rw [← hn] at HWE
  obtain ⟨b, hb⟩ : ∃ b, mayP a last l = b := ⟨_, rfl⟩
  rw [hb] at HM
  have HBb := Lib.hid hb
  obtain ⟨R, hR⟩ : ∃ R, R = addP a last l ⟨s, t, k, p, x⟩ := ⟨_, rfl⟩
  rw [← hR]
  have HRe := Lib.hid hR
  clear hW0 hH hb2 hb3 hb4 hgw hWs hr hn hb hR
  cases b with
  | false =>
    have hres : R = none := by rw [HRe.out]; unfold addP; rw [HBb.out]; rfl
    subst hres
    go_enter Try.func18, Try.ntmps18
    go_wp2_with fail
    rw [← HWE.out]
    rw [← HHE.out]
    refine (HM.out _ HGW.out).mono ?_
    rintro e w2 ⟨_, rfl, rfl, hg2⟩
    have hb4 := HB4.out w2 hg2
    go_wp2_with (first | refine wpList_store_blk (c := zA) hb4 (by rfl) 27 (.tmp 4) (.tmp 10) (by rfl) (by rfl) (by rfl) (by kernel_rfl) rfl (by kernel_rfl) ?_)
    exact bodyPost_ret (results_ct rfl _ _ (H + 1 + 1) 27 zA.toArray (0, 0) _ rfl (hb4.setRow zA) Try.underlying27 (by rfl) (by rfl)) rfl ⟨_, rfl, by rfl, Grew.setRow (Grew.trans HGW.out hg2) (by have := HHE.out; omega) _⟩
  | true =>
    have hmr := mayR HBb.out
    have hl0 := hmr.l0
    have hl1 := hmr.l1
    have hlen := hmr.len
    rw [← HN.out] at hlen
    have HMR := Lib.hid hmr
    clear hmr
    have hn8 : n ≤ 8 := by omega
    obtain ⟨q, hq⟩ : ∃ q : Int, q = last + 1 := ⟨_, rfl⟩
    have HQ := Lib.hid hq
    obtain ⟨b2, hb2⟩ : ∃ b2, goodP ⟨q, t, k, p, x⟩ = b2 := ⟨_, rfl⟩
    have HGD := Lib.hid (fun w => good_c q t k p x w)
    rw [hb2] at HGD
    have HB22 := Lib.hid hb2
    have hw1 : last + 1 = q := hq.symm
    clear hb2 hq hlen
    go_enter Try.func18, Try.ntmps18
    go_wp2_with fail
    rw [← HWE.out]
    rw [← HHE.out]
    refine (HM.out _ HGW.out).mono ?_
    rintro e w2 ⟨_, rfl, rfl, hg2⟩
    have b2 := HB2.out w2 hg2
    have b3 := HB3.out w2 hg2
    have k1 := b2.at_ 1
    have j0 := b3.at_ 0
    have j1 := b3.at_ 1
    have j2 := b3.at_ 2
    have j3 := b3.at_ 3
    have j4 := b3.at_ 4
    have f0 := b3.fz 0
    simp only [List.getElem?_cons_zero, List.getElem?_cons_succ] at k1 j0 j1 j2 j3 j4
    have hb3' := b3.set 0 (.int .i64 q)
    obtain ⟨W3, hW3⟩ : ∃ W3, W3 = w2.setCell ⟨H + 1, 0, none⟩ (.int .i64 q) := ⟨_, rfl⟩
    rw [← hW3] at hb3'
    have hb3' : Blk W3 (H + 1) 36 [.int .i64 q, .int .i64 t, .int .i64 k, .string p, .int .i64 x] := hb3'
    have hu3 : Upd (fun j => j = H + 1) w2 W3 := by rw [hW3]; exact Upd.set (S := fun j => j = H + 1) (p := ⟨H + 1, 0, none⟩) (Upd.refl _ _) (.inl rfl) _
    have hgw3 : Grew w W3 := ((Upd.of_grew (S := fun j => j = H + 1) (Grew.trans HGW.out hg2)).trans hu3).grew (fun i hi e => by have := HHE.out; omega)
    have hb23 := b2.upd hu3 (by omega)
    have hb43 := (HB4.out w2 hg2).upd hu3 (by omega)
    have hs3 : H + 1 + 1 + 1 ≤ W3.heap.size := by have h1 := HWS.out; have h2 := hg2.size; have h3 := hu3.size; omega
    have C2 := Lib.hid (fun wx (h : Grew W3 wx) => hb23.grew h)
    have C3 := Lib.hid (fun wx (h : Grew W3 wx) => hb3'.grew h)
    have C4 := Lib.hid (fun wx (h : Grew W3 wx) => hb43.grew h)
    have HW3 := Lib.hid hW3
    have HG3 := Lib.hid hgw3
    have HS3 := Lib.hid hs3
    clear hb3' hW3 hu3 hgw3 hb23 hb43 b2 b3 hg2 hs3
    go_wp2_with fail
    rw [← HW3.out]
    clear k1 j0 j1 j2 j3 j4 f0
    refine (HGD.out _).mono ?_
    rintro e w4 ⟨_, rfl, rfl, hg4⟩
    cases b2 with
    | false =>
      have hres : R = none := by rw [HRe.out]; unfold addP; rw [HBb.out, show nextE last ⟨s, t, k, p, x⟩ = ⟨q, t, k, p, x⟩ from by unfold nextE; rw [HQ.out], HB22.out]; rfl
      subst hres
      have hb4 := C4.out w4 hg4
      go_wp2_with (first | refine wpList_store_blk (c := zA) hb4 (by rfl) 27 (.tmp 4) (.tmp 18) (by rfl) (by rfl) (by rfl) (by kernel_rfl) rfl (by kernel_rfl) ?_)
      exact bodyPost_ret (results_ct rfl _ _ (H + 1 + 1) 27 zA.toArray (0, 0) _ rfl (hb4.setRow zA) Try.underlying27 (by rfl) (by rfl)) rfl ⟨_, rfl, by rfl, Grew.setRow (Grew.trans HG3.out hg4) (by have := HHE.out; omega) _⟩
    | true =>
      have hres : R = some (if l.length = 8 then (strOfNums (sealL (bytesOf a) (bytesE (l.getD 0 z36))), l.drop 1 ++ [⟨q, t, k, p, x⟩]) else (a, l ++ [⟨q, t, k, p, x⟩])) := by
        have hne : nextE last ⟨s, t, k, p, x⟩ = ⟨q, t, k, p, x⟩ := by unfold nextE; rw [HQ.out]
        rw [HRe.out]; unfold addP; rw [HBb.out, hne, HB22.out]; rfl
      have HR2 := Lib.hid hres
      clear hres
      -- the copy of the entries
      have hgw4 := Grew.trans HG3.out hg4
      have hE := emptyE w4 w4.heap.size (Nat.le_refl _)
      have hgE : Grew w4 (w4.alloc (.cells #[] 36)) := Grew.alloc _ _
      have hs4 : H + 1 + 1 + 1 ≤ w4.heap.size := Nat.le_trans HS3.out hg4.size
      obtain ⟨v6, w6, hrun6, hown6, hgr6, -⟩ := app_many (P := Try.prog) (w4.alloc (.cells #[] 36)) w4.heap.size 22 36 22 (.agg #[.int .i64 0, .int .i64 0, .int .i64 0, .string ⟨#[]⟩, .int .i64 0]) 5 48 Try.underlying22 infoEn rfl (by decide) (by decide) (.slice (some ⟨w4.heap.size, 0, none⟩) 0 0) 0 [] A n c (ens l) (by rw [ens_len, HN.out]) (ens_one l) (fun hp => C_ens (HRR.out _ (Grew.trans hgw4 hgE)) hp) hE hgE.size (by omega)
      rw [Nat.zero_add, List.nil_append] at hown6
      have hgr6' : Grew w4 w6 := ((Upd.of_grew (S := fun j => j = w4.heap.size) hgE).trans ((Upd.of_grown hgr6).mono (fun j _ h => by simpa [Value.ownBlock] using h.symm))).grew (fun i hi e => by omega)
      have hg46 := Grew.trans hg4 hgr6'
      have hgw6 := Grew.trans HG3.out hg46
      have k2' := (C2.out _ (Grew.trans hg4 hgE)).at_ 2
      simp only [List.getElem?_cons_zero, List.getElem?_cons_succ] at k2'
      have HRUN := Lib.hid hrun6
      have hown6 := own_less hown6 hs4
      have HO6 := Lib.hid hown6
      have HG46 := Lib.hid hg46
      have HGW6 := Lib.hid hgw6
      have HS6 := Lib.hid (show H + 1 + 1 + 1 ≤ w6.heap.size from Nat.le_trans hs4 hgr6'.size)
      obtain ⟨A6, c6, rfl⟩ := own_slice hown6
      have hc6 := own_le hown6
      clear hrun6 hown6 hgr6 hgr6' hg46 hE hgE hgw4 hg4 hs4 hgw6
      by_cases h8 : n = 8
      · have e8 : ((n : Int) == 8) = true := by simp; omega
        subst h8
        have hl8 : l.length = 8 := HN.out.symm
        have HLV := Lib.hid (show R = some (strOfNums (sealL (bytesOf a) (bytesE (l.getD 0 z36))), l.drop 1 ++ [⟨q, t, k, p, x⟩]) from by rw [HR2.out, if_pos hl8])
        obtain ⟨S, hS⟩ : ∃ S, S = strOfNums (sealL (bytesOf a) (bytesE (l.getD 0 z36))) := ⟨_, rfl⟩
        rw [← hS] at HLV
        obtain ⟨⟨y0, y1, y2, y3, y4⟩, hy⟩ : ∃ y : En, y = l.getD 0 z36 := ⟨_, rfl⟩
        have hly : l[0]? = some ⟨y0, y1, y2, y3, y4⟩ := by rw [hy]; simp [List.getD, List.getElem?_eq_getElem (show 0 < l.length by omega)]
        have hgy : goodP ⟨y0, y1, y2, y3, y4⟩ = true := HMR.out.good _ (List.mem_of_getElem? hly)
        rw [← hy] at hS
        have HBY := Lib.hid (fun w => bytes_c y0 y1 y2 y3 y4 hgy w)
        obtain ⟨BY, hBY⟩ : ∃ BY, BY = strOfNums (bytesE ⟨y0, y1, y2, y3, y4⟩) := ⟨_, rfl⟩
        have HSE := Lib.hid (fun w => seal_c w (bytesOf a) (bytesE ⟨y0, y1, y2, y3, y4⟩) (bytesOf_bytes a) (bytesE_bytes _) (by rw [bytesOf_length]; have := HMR.out.sz; omega) (by have := bytesE_len hgy; omega))
        rw [str_bytes, ← hBY, ← hS] at HSE
        rw [← hBY] at HBY
        obtain ⟨g6, o6, cap6, hv6, -, -, hg6, hcell6, -⟩ := (rowO_of_own HO6.out).at_ (by omega)
        injection hv6 with hv61 hv62 hv63
        subst hv61 hv63
        have hrow6 := rowO_of_own HO6.out
        have hcl0 := hcell6 0 (by omega)
        have hcl1 := hcell6 1 (by omega)
        have hcl2 := hcell6 2 (by omega)
        have hcl3 := hcell6 3 (by omega)
        have hcl4 := hcell6 4 (by omega)
        have hea := ens_at l 0 _ hly
        have hea0 := hea 0 (by omega)
        have hea1 := hea 1 (by omega)
        have hea2 := hea 2 (by omega)
        have hea3 := hea 3 (by omega)
        have hea4 := hea 4 (by omega)
        simp only [Nat.zero_mul, Nat.zero_add] at hea0 hea1 hea2 hea3 hea4
        rw [hea0] at hcl0
        rw [hea1] at hcl1
        rw [hea2] at hcl2
        rw [hea3] at hcl3
        rw [hea4] at hcl4
        simp only [enc5, List.getElem?_cons_zero, List.getElem?_cons_succ, Nat.add_zero] at hcl0 hcl1 hcl2 hcl3 hcl4
        have CL := Lib.hid (fun wx (h : Grew w6 wx) => And.intro (pw_cell_below h hcl0) (And.intro (pw_cell_below h hcl1) (And.intro (pw_cell_below h hcl2) (And.intro (pw_cell_below h hcl3) (pw_cell_below h hcl4)))))
        have hb6 := hrow6.base_ g6 rfl
        have HROW6 := Lib.hid hrow6
        clear hcl0 hcl1 hcl2 hcl3 hcl4 hea hea0 hea1 hea2 hea3 hea4 hcell6 hly hgy hy hS hBY hv62 hrow6 hl8
        go_wp2_with (at_builtin; refine wpList_app (by rfl) (.tmp 19) (.tmp 21) 22 (by rfl) (by rfl) (by rfl) HRUN.out ?_)
        apply region_grew [Is _, Is _, Is _, Is _, Is _, Is _] [([(2, none)], none), ([(26, some 0)], none), ([(6, none)], none), ([(28, some 2)], none), ([(29, some 3)], none), ([(30, some 4)], none)] [(26, 0), (27, 1), (28, 2), (29, 3), (30, 4), (31, 5)] rfl (by kernel_rfl) (by kernel_rfl) (show Stable Grew _ from ⟨Is.stable _, Is.stable _, Is.stable _, Is.stable _, Is.stable _, Is.stable _, trivial⟩)
        · show OpsHold _ _ _ _ _ _ _ _ _
          refine ⟨fun a_ wx hR hD K hK => ?_, ?_⟩
          · have hG : Grew w6 wx := (Grew.drew _).trans hR
            simp [Deps, Dep, at_, Is] at hD
            go_simp
            exact hK _ _ (Grew.refl _) rfl
          refine ⟨fun a_ wx hR hD K hK => ?_, ?_⟩
          · have hG : Grew w6 wx := (Grew.drew _).trans hR
            simp [Deps, Dep, at_, Is] at hD
            have e_ := (C2.out wx (Grew.trans HG46.out hG)).at_ 0
            simp only [List.getElem?_cons_zero] at e_
            go_simp
            exact hK _ _ (Grew.refl _) rfl
          refine ⟨fun a_ wx hR hD K hK => ?_, ?_⟩
          · have hG : Grew w6 wx := (Grew.drew _).trans hR
            simp [Deps, Dep, at_, Is] at hD
            go_simp
            exact hK _ _ (Grew.refl _) rfl
          refine ⟨fun a_ wx hR hD K hK => ?_, ?_⟩
          · have hG : Grew w6 wx := (Grew.drew _).trans hR
            simp [Deps, Dep, at_, Is] at hD
            go_simp
            exact hK _ _ (Grew.refl _) rfl
          refine ⟨fun a_ wx hR hD K hK => ?_, ?_⟩
          · have hG : Grew w6 wx := (Grew.drew _).trans hR
            simp [Deps, Dep, at_, Is] at hD
            obtain ⟨e0, e1, e2, e3, e4⟩ := CL.out wx hG
            go_simp
            exact hK _ _ (Grew.refl _) rfl
          refine ⟨fun a_ wx hR hD K hK => ?_, ?_⟩
          · have hG : Grew w6 wx := (Grew.drew _).trans hR
            simp [Deps, Dep, at_, Is] at hD
            go_simp
            have hcn := HBY.out wx
            with_reducible refine hcn.mono ?_
            clear hcn
            rintro e wy ⟨v, rfl, hv, hg⟩
            exact hK _ _ hg hv
          trivial
        · show EndHold _ _ _ _ _ _ _
          refine end_all (xs := [_, _, _, _, _, _]) ⟨rfl, rfl, rfl, rfl, rfl, rfl, trivial⟩ ?_
          rintro wb hR1 -
          refine ⟨?_⟩
          have hG_wb : Grew w6 wb := (Grew.drew _).trans hR1
          clear hR1
          simp only [Act.put, List.setIfInBounds_toArray, List.set_cons_succ, List.set_cons_zero, dropN, putEach]
          go_wp2_with fail
          refine (HSE.out wb).mono ?_
          rintro e w7 ⟨_, rfl, rfl, hgb7⟩
          have hG_w7 : Grew w6 w7 := Grew.trans hG_wb hgb7
          clear hG_wb hgb7
          have hb27 := C2.out w7 (Grew.trans HG46.out hG_w7)
          have k0 := hb27.at_ 0
          have f0 := hb27.fz 0
          simp only [List.getElem?_cons_zero] at k0
          have hb28 := hb27.set 0 (.string S)
          obtain ⟨Wc, hWc⟩ : ∃ Wc, Wc = w7.setCell ⟨H, 0, none⟩ (.string S) := ⟨_, rfl⟩
          rw [← hWc] at hb28
          have hb28 : Blk Wc H 27 [.string S, .int .i64 last, .slice A 8 c] := hb28
          have hu8 : Upd (fun j => j = H) w7 Wc := by rw [hWc]; exact Upd.set (S := fun j => j = H) (p := ⟨H, 0, none⟩) (Upd.refl _ _) (.inl rfl) _
          have D2 := Lib.hid (fun wx (h : Upd (fun j => H + 1 + 1 + 1 ≤ j) Wc wx) => hb28.upd h (by omega))
          have hb38 := (C3.out w7 (Grew.trans HG46.out hG_w7)).upd hu8 (by omega)
          have D3 := Lib.hid (fun wx (h : Upd (fun j => H + 1 + 1 + 1 ≤ j) Wc wx) => hb38.upd h (by omega))
          have hb48 := (C4.out w7 (Grew.trans HG46.out hG_w7)).upd hu8 (by omega)
          have D4 := Lib.hid (fun wx (h : Upd (fun j => H + 1 + 1 + 1 ≤ j) Wc wx) => hb48.upd h (by omega))
          have HGc := Lib.hid (show Grew w Wc from ((Upd.of_grew (S := fun j => j = H) (Grew.trans HGW6.out hG_w7)).trans hu8).grew (fun i hi e => by have := HHE.out; omega))
          have HSc := Lib.hid (show H + 1 + 1 + 1 ≤ Wc.heap.size from Nat.le_trans HS6.out (Nat.le_trans hG_w7.size hu8.size))
          have hr8 := (HROW6.out.grew hG_w7).upd hu8 (fun j hj e => by have := HROW6.out.base_ j hj; omega)
          have HRO := Lib.hid (show RowO Wc (H + 1 + 1 + 1) 36 5 (.slice (some ⟨g6, o6 + 5, none⟩) 7 7) 7 (ens (l.drop 1)) from by
            obtain ⟨hx1, hx2 | ⟨g', o', cap', cur, hx3, hx4, hx5, hx6, hx7, hx8, hx9⟩⟩ := hr8
            · exact absurd hx2.2 (by omega)
            · injection hx3 with hx31 hx32 hx33
              injection hx31 with hx31
              injection hx31 with hx31 hx34
              subst hx31 hx33 hx34
              refine ⟨by rw [ens_len, List.length_drop, ← HN.out], .inr ⟨g6, o6 + 5, 7, cur, rfl, hx4, hx5, Nat.le_refl _, by unfold maxLen; omega, by omega, ?_⟩⟩
              rw [← ens_drop l 1, ← hx9, List.drop_take, List.drop_drop])
          have HWc := Lib.hid hWc
          have c8 : (8 : Int) ≤ (c6 : Int) := by omega
          have c8' : 8 ≤ c6 := hc6
          clear hb27 hb28 hb38 hb48 hu8 hr8 hWc hb6 hg6 hG_w7
          go_wp2_with fail
          rw [← HWc.out]
          clear k0 f0
          have hatV := HRO.out.base_
          have L2 := Lib.hid (fun wx (h : Grew Wc wx ∨ ∃ w1, Grew Wc w1 ∧ w1.grownBy wx (Value.slice (some ⟨g6, o6 + 5, none⟩) 7 7).ownBlock) => D2.out wx ((late_upd h).mono (fun j _ hj => hatV j hj)))
          have L3 := Lib.hid (fun wx (h : Grew Wc wx ∨ ∃ w1, Grew Wc w1 ∧ w1.grownBy wx (Value.slice (some ⟨g6, o6 + 5, none⟩) 7 7).ownBlock) => D3.out wx ((late_upd h).mono (fun j _ hj => hatV j hj)))
          have hlrV := HRO.out.lt
          clear hatV
          apply region_bigF (fun w w' => w.grownBy w' (Value.slice (some ⟨g6, o6 + 5, none⟩) 7 7).ownBlock) [.float, .float, .float, .float, .plain, .plain, .plain, .big] [Is _, Is _, Is _, Is _, Is _, Is _, OneC 36 [.int .i64 q, .int .i64 t, .int .i64 k, .string p, .int .i64 x] (.slice (some ⟨g6, o6 + 5, none⟩) 7 7), AppO (H + 1 + 1 + 1) 36 5 (ens (l.drop 1) ++ enc5 ⟨q, t, k, p, x⟩) (7 + 1) (.slice (some ⟨g6, o6 + 5, none⟩) 7 7) Wc.heap.size] [([(2, none)], none), ([(40, some 0)], none), ([(3, none)], none), ([(42, some 2)], none), ([(6, none)], none), ([(3, none)], none), ([(45, some 5)], none), ([(44, some 4), (46, some 6)], none)] [(46, 6), (47, 7), (40, 0), (41, 1), (42, 2), (43, 3), (44, 4), (45, 5)] rfl (by kernel_rfl) (by kernel_rfl) (by kernel_rfl) (by kernel_rfl) rfl (show StableB Grew _ _ _ from ⟨(fun _ => Is.stableB _), (fun _ => Is.stableB _), (fun _ => Is.stableB _), (fun _ => Is.stableB _), (fun _ => Is.stableB _), (fun _ => Is.stableB _), (fun _ => OneC.stableB _ _ _), (fun h_ => absurd rfl h_), trivial⟩)
          · show PhHoldF _ _ _ _ _ _ _ _ _ _ _
            refine ⟨fun a_ wx hRL hD K hK => ?_, ?_⟩
            · have hF_ := True.intro
              have hRL : Grew Wc wx ∨ ∃ w1_, Grew Wc w1_ ∧ (fun w w' => w.grownBy w' (Value.slice (some ⟨g6, o6 + 5, none⟩) 7 7).ownBlock) w1_ wx := hRL.elim (fun h_ => .inl ((Grew.drew _).trans h_)) (fun h_ => .inr ⟨h_.choose, (Grew.drew _).trans h_.choose_spec.1, h_.choose_spec.2⟩)
              simp [Deps, Dep, at_, Is] at hD
              go_simp
              exact hK _ _ rfl rfl
            refine ⟨fun a_ wx hRL hD K hK => ?_, ?_⟩
            · have hF_ := True.intro
              have hRL : Grew Wc wx ∨ ∃ w1_, Grew Wc w1_ ∧ (fun w w' => w.grownBy w' (Value.slice (some ⟨g6, o6 + 5, none⟩) 7 7).ownBlock) w1_ wx := hRL.elim (fun h_ => .inl ((Grew.drew _).trans h_)) (fun h_ => .inr ⟨h_.choose, (Grew.drew _).trans h_.choose_spec.1, h_.choose_spec.2⟩)
              simp [Deps, Dep, at_, Is] at hD
              have e_ := (L2.out wx hRL).at_ 0
              simp only [List.getElem?_cons_zero] at e_
              go_simp
              exact hK _ _ rfl rfl
            refine ⟨fun a_ wx hRL hD K hK => ?_, ?_⟩
            · have hF_ := True.intro
              have hRL : Grew Wc wx ∨ ∃ w1_, Grew Wc w1_ ∧ (fun w w' => w.grownBy w' (Value.slice (some ⟨g6, o6 + 5, none⟩) 7 7).ownBlock) w1_ wx := hRL.elim (fun h_ => .inl ((Grew.drew _).trans h_)) (fun h_ => .inr ⟨h_.choose, (Grew.drew _).trans h_.choose_spec.1, h_.choose_spec.2⟩)
              simp [Deps, Dep, at_, Is] at hD
              go_simp
              exact hK _ _ rfl rfl
            refine ⟨fun a_ wx hRL hD K hK => ?_, ?_⟩
            · have hF_ := True.intro
              have hRL : Grew Wc wx ∨ ∃ w1_, Grew Wc w1_ ∧ (fun w w' => w.grownBy w' (Value.slice (some ⟨g6, o6 + 5, none⟩) 7 7).ownBlock) w1_ wx := hRL.elim (fun h_ => .inl ((Grew.drew _).trans h_)) (fun h_ => .inr ⟨h_.choose, (Grew.drew _).trans h_.choose_spec.1, h_.choose_spec.2⟩)
              simp [Deps, Dep, at_, Is] at hD
              have e_ := (L3.out wx hRL).at_ 0
              simp only [List.getElem?_cons_zero] at e_
              go_simp
              exact hK _ _ rfl rfl
            refine ⟨fun a_ wx hR hD K hK => ?_, ?_⟩
            · have hG : Grew Wc wx := (Grew.drew _).trans hR
              simp [Deps, Dep, at_, Is] at hD
              go_simp
              exact hK _ _ (Grew.refl _) rfl
            refine ⟨fun a_ wx hR hD K hK => ?_, ?_⟩
            · have hG : Grew Wc wx := (Grew.drew _).trans hR
              simp [Deps, Dep, at_, Is] at hD
              have e0 := (L3.out wx (.inl hG)).at_ 0
              have e1 := (L3.out wx (.inl hG)).at_ 1
              have e2 := (L3.out wx (.inl hG)).at_ 2
              have e3 := (L3.out wx (.inl hG)).at_ 3
              have e4 := (L3.out wx (.inl hG)).at_ 4
              simp only [List.getElem?_cons_zero, List.getElem?_cons_succ] at e0 e1 e2 e3 e4
              go_simp
              exact hK _ _ (Grew.refl _) rfl
            refine ⟨fun a_ wx hR hD K hK => ?_, ?_⟩
            · have hG : Grew Wc wx := (Grew.drew _).trans hR
              simp [Deps, Dep, at_, Is] at hD
              go_simp
              exact hK _ _ (Grew.alloc _ _) (OneC.new (fun k hk => Nat.lt_of_lt_of_le (hlrV k hk) hG.size))
            refine ⟨⟨rfl, fun a_ wx hR hD K hK => ?_⟩, ?_⟩
            · have hG : Grew Wc wx := (Grew.drew _).trans hR
              simp [Deps, Dep, at_, Is] at hD
              obtain ⟨hd0, hd1⟩ := hD
              obtain ⟨g1, h1, h2, h3⟩ := hd1
              obtain ⟨v1, wy, hrun, hown1, hgr1, hat1⟩ := app_rowO (P := Try.prog) wx (H + 1 + 1 + 1) 22 36 22 (.agg #[.int .i64 0, .int .i64 0, .int .i64 0, .string ⟨#[]⟩, .int .i64 0]) 5 48 Try.underlying22 infoEn rfl (by decide) (by decide) (.slice (some ⟨g6, o6 + 5, none⟩) 7 7) 7 _ g1 _ rfl (enc5_one ⟨q, t, k, p, x⟩) (HRO.out.grew hG) h2 (Nat.le_trans HSc.out hG.size) (by omega)
              exact wp_app (.tmp 44) (.tmp 46) 22 (by rfl) (eval_tmp hd0) (eval_tmp h1) hrun (hK _ _ hgr1 ⟨hown1, hat1.imp id (fun ⟨k, h, h'⟩ => ⟨k, h, Nat.le_trans hG.size h'⟩)⟩)
            trivial
          · show EndHold _ _ _ _ _ _ _
            intro v46
            intro v47
            refine end_all (xs := [_, _, _, _, _, _]) ⟨rfl, rfl, rfl, rfl, rfl, rfl, trivial⟩ ?_
            rintro w7 hR1 ⟨⟨-, hOne⟩, hApp⟩
            refine ⟨?_⟩
            obtain ⟨wm_w7, hRm, hP_w7⟩ := hR1
            have hG_w7 : Grew Wc wm_w7 := (Grew.drew _).trans hRm
            clear hRm
            simp only [Act.put, List.setIfInBounds_toArray, List.set_cons_succ, List.set_cons_zero, dropN, putEach]
            obtain ⟨hro7, -⟩ := hApp
            obtain ⟨A9, c9, hv9, -⟩ := hro7.slice
            subst hv9
            have hatV := HRO.out.base_
            have hu7 : Upd (fun j => H + 1 + 1 + 1 ≤ j) Wc w7 := ((Upd.of_grew hG_w7).grown hP_w7 fun k hk => .inl hk).mono (fun j _ hj => hatV j hj)
            have hb4 := D4.out w7 hu7
            have hg7 : Grew w w7 := ((Upd.of_grew (S := fun j => H + 1 + 1 + 1 ≤ j) HGc.out).trans hu7).grew (fun i hi e => by have := HHE.out; omega)
            have HR7 := Lib.hid hro7
            clear hatV hu7 hro7 hP_w7 hG_w7 hOne hlrV
            go_wp2_with (first | refine wpList_store_blk (c := [.string S, .int .i64 q, .slice A9 (7 + 1) c9]) hb4 (by rfl) 27 (.tmp 4) (.tmp 48) (by rfl) (by rfl) (by rfl) (by kernel_rfl) rfl (zA_one _ _ _ _ _) ?_)
            exact bodyPost_ret (results_ct rfl _ _ (H + 1 + 1) 27 ([.string S, .int .i64 q, .slice A9 (7 + 1) c9] : List Value).toArray (0, 0) _ rfl (hb4.setRow ([.string S, .int .i64 q, .slice A9 (7 + 1) c9] : List Value)) Try.underlying27 (by rfl) (by rfl)) rfl ⟨_, rfl, by
              rw [HLV.out]
              refine ⟨_, by rw [HQ.out]; rfl, ?_⟩
              have hsr : ∀ cc, Upd (fun j => j = H + 1 + 1) w7 (w7.setRow (H + 1 + 1) cc) := fun cc => Upd.setRow (S := fun j => j = H + 1 + 1) (Upd.refl _ _) (.inl rfl) cc
              have h := HR7.out.less (base := w.heap.size) (by have := HHE.out; omega)
              rw [← ens_snoc] at h
              rw [List.length_append, List.length_singleton]
              rw [List.length_drop, ← HN.out]; exact h.upd (hsr _) (fun j hj e => by have := HR7.out.base_ j hj; omega), Grew.setRow hg7 (by have := HHE.out; omega) _⟩

      · have e8 : ((n : Int) == 8) = false := by simp; omega
        have HLV := Lib.hid (show R = some (a, l ++ [⟨q, t, k, p, x⟩]) from by rw [HR2.out, if_neg (by rw [← HN.out]; exact h8)])
        obtain ⟨Wc, hWc⟩ : ∃ Wc, Wc = w6 := ⟨_, rfl⟩
        subst hWc
        have D2 := Lib.hid (fun wx (h : Upd (fun j => H + 1 + 1 + 1 ≤ j) Wc wx) => (C2.out Wc HG46.out).upd h (by omega))
        have D3 := Lib.hid (fun wx (h : Upd (fun j => H + 1 + 1 + 1 ≤ j) Wc wx) => (C3.out Wc HG46.out).upd h (by omega))
        have D4 := Lib.hid (fun wx (h : Upd (fun j => H + 1 + 1 + 1 ≤ j) Wc wx) => (C4.out Wc HG46.out).upd h (by omega))
        have HGc := Lib.hid HGW6.out
        have HSc := Lib.hid HS6.out
        have HRO := Lib.hid (rowO_of_own HO6.out)
        clear h8
        go_wp2_with (at_builtin; refine wpList_app (by rfl) (.tmp 19) (.tmp 21) 22 (by rfl) (by rfl) (by rfl) HRUN.out ?_)
        have hatV := HRO.out.base_
        have L2 := Lib.hid (fun wx (h : Grew Wc wx ∨ ∃ w1, Grew Wc w1 ∧ w1.grownBy wx (Value.slice A6 n c6).ownBlock) => D2.out wx ((late_upd h).mono (fun j _ hj => hatV j hj)))
        have L3 := Lib.hid (fun wx (h : Grew Wc wx ∨ ∃ w1, Grew Wc w1 ∧ w1.grownBy wx (Value.slice A6 n c6).ownBlock) => D3.out wx ((late_upd h).mono (fun j _ hj => hatV j hj)))
        have hlrV := HRO.out.lt
        clear hatV
        apply region_bigF (fun w w' => w.grownBy w' (Value.slice A6 n c6).ownBlock) [.float, .float, .float, .float, .plain, .plain, .plain, .big] [Is _, Is _, Is _, Is _, Is _, Is _, OneC 36 [.int .i64 q, .int .i64 t, .int .i64 k, .string p, .int .i64 x] (.slice A6 n c6), AppO (H + 1 + 1 + 1) 36 5 (ens l ++ enc5 ⟨q, t, k, p, x⟩) (n + 1) (.slice A6 n c6) Wc.heap.size] [([(2, none)], none), ([(40, some 0)], none), ([(3, none)], none), ([(42, some 2)], none), ([(6, none)], none), ([(3, none)], none), ([(45, some 5)], none), ([(44, some 4), (46, some 6)], none)] [(46, 6), (47, 7), (40, 0), (41, 1), (42, 2), (43, 3), (44, 4), (45, 5)] rfl (by kernel_rfl) (by kernel_rfl) (by kernel_rfl) (by kernel_rfl) rfl (show StableB Grew _ _ _ from ⟨(fun _ => Is.stableB _), (fun _ => Is.stableB _), (fun _ => Is.stableB _), (fun _ => Is.stableB _), (fun _ => Is.stableB _), (fun _ => Is.stableB _), (fun _ => OneC.stableB _ _ _), (fun h_ => absurd rfl h_), trivial⟩)
        · show PhHoldF _ _ _ _ _ _ _ _ _ _ _
          refine ⟨fun a_ wx hRL hD K hK => ?_, ?_⟩
          · have hF_ := True.intro
            have hRL : Grew Wc wx ∨ ∃ w1_, Grew Wc w1_ ∧ (fun w w' => w.grownBy w' (Value.slice A6 n c6).ownBlock) w1_ wx := hRL.elim (fun h_ => .inl ((Grew.drew _).trans h_)) (fun h_ => .inr ⟨h_.choose, (Grew.drew _).trans h_.choose_spec.1, h_.choose_spec.2⟩)
            simp [Deps, Dep, at_, Is] at hD
            go_simp
            exact hK _ _ rfl rfl
          refine ⟨fun a_ wx hRL hD K hK => ?_, ?_⟩
          · have hF_ := True.intro
            have hRL : Grew Wc wx ∨ ∃ w1_, Grew Wc w1_ ∧ (fun w w' => w.grownBy w' (Value.slice A6 n c6).ownBlock) w1_ wx := hRL.elim (fun h_ => .inl ((Grew.drew _).trans h_)) (fun h_ => .inr ⟨h_.choose, (Grew.drew _).trans h_.choose_spec.1, h_.choose_spec.2⟩)
            simp [Deps, Dep, at_, Is] at hD
            have e_ := (L2.out wx hRL).at_ 0
            simp only [List.getElem?_cons_zero] at e_
            go_simp
            exact hK _ _ rfl rfl
          refine ⟨fun a_ wx hRL hD K hK => ?_, ?_⟩
          · have hF_ := True.intro
            have hRL : Grew Wc wx ∨ ∃ w1_, Grew Wc w1_ ∧ (fun w w' => w.grownBy w' (Value.slice A6 n c6).ownBlock) w1_ wx := hRL.elim (fun h_ => .inl ((Grew.drew _).trans h_)) (fun h_ => .inr ⟨h_.choose, (Grew.drew _).trans h_.choose_spec.1, h_.choose_spec.2⟩)
            simp [Deps, Dep, at_, Is] at hD
            go_simp
            exact hK _ _ rfl rfl
          refine ⟨fun a_ wx hRL hD K hK => ?_, ?_⟩
          · have hF_ := True.intro
            have hRL : Grew Wc wx ∨ ∃ w1_, Grew Wc w1_ ∧ (fun w w' => w.grownBy w' (Value.slice A6 n c6).ownBlock) w1_ wx := hRL.elim (fun h_ => .inl ((Grew.drew _).trans h_)) (fun h_ => .inr ⟨h_.choose, (Grew.drew _).trans h_.choose_spec.1, h_.choose_spec.2⟩)
            simp [Deps, Dep, at_, Is] at hD
            have e_ := (L3.out wx hRL).at_ 0
            simp only [List.getElem?_cons_zero] at e_
            go_simp
            exact hK _ _ rfl rfl
          refine ⟨fun a_ wx hR hD K hK => ?_, ?_⟩
          · have hG : Grew Wc wx := (Grew.drew _).trans hR
            simp [Deps, Dep, at_, Is] at hD
            go_simp
            exact hK _ _ (Grew.refl _) rfl
          refine ⟨fun a_ wx hR hD K hK => ?_, ?_⟩
          · have hG : Grew Wc wx := (Grew.drew _).trans hR
            simp [Deps, Dep, at_, Is] at hD
            have e0 := (L3.out wx (.inl hG)).at_ 0
            have e1 := (L3.out wx (.inl hG)).at_ 1
            have e2 := (L3.out wx (.inl hG)).at_ 2
            have e3 := (L3.out wx (.inl hG)).at_ 3
            have e4 := (L3.out wx (.inl hG)).at_ 4
            simp only [List.getElem?_cons_zero, List.getElem?_cons_succ] at e0 e1 e2 e3 e4
            go_simp
            exact hK _ _ (Grew.refl _) rfl
          refine ⟨fun a_ wx hR hD K hK => ?_, ?_⟩
          · have hG : Grew Wc wx := (Grew.drew _).trans hR
            simp [Deps, Dep, at_, Is] at hD
            go_simp
            exact hK _ _ (Grew.alloc _ _) (OneC.new (fun k hk => Nat.lt_of_lt_of_le (hlrV k hk) hG.size))
          refine ⟨⟨rfl, fun a_ wx hR hD K hK => ?_⟩, ?_⟩
          · have hG : Grew Wc wx := (Grew.drew _).trans hR
            simp [Deps, Dep, at_, Is] at hD
            obtain ⟨hd0, hd1⟩ := hD
            obtain ⟨g1, h1, h2, h3⟩ := hd1
            obtain ⟨v1, wy, hrun, hown1, hgr1, hat1⟩ := app_rowO (P := Try.prog) wx (H + 1 + 1 + 1) 22 36 22 (.agg #[.int .i64 0, .int .i64 0, .int .i64 0, .string ⟨#[]⟩, .int .i64 0]) 5 48 Try.underlying22 infoEn rfl (by decide) (by decide) (.slice A6 n c6) n _ g1 _ rfl (enc5_one ⟨q, t, k, p, x⟩) (HRO.out.grew hG) h2 (Nat.le_trans HSc.out hG.size) (by omega)
            exact wp_app (.tmp 44) (.tmp 46) 22 (by rfl) (eval_tmp hd0) (eval_tmp h1) hrun (hK _ _ hgr1 ⟨hown1, hat1.imp id (fun ⟨k, h, h'⟩ => ⟨k, h, Nat.le_trans hG.size h'⟩)⟩)
          trivial
        · show EndHold _ _ _ _ _ _ _
          intro v46
          intro v47
          refine end_all (xs := [_, _, _, _, _, _]) ⟨rfl, rfl, rfl, rfl, rfl, rfl, trivial⟩ ?_
          rintro w7 hR1 ⟨⟨-, hOne⟩, hApp⟩
          refine ⟨?_⟩
          obtain ⟨wm_w7, hRm, hP_w7⟩ := hR1
          have hG_w7 : Grew Wc wm_w7 := (Grew.drew _).trans hRm
          clear hRm
          simp only [Act.put, List.setIfInBounds_toArray, List.set_cons_succ, List.set_cons_zero, dropN, putEach]
          obtain ⟨hro7, -⟩ := hApp
          obtain ⟨A9, c9, hv9, -⟩ := hro7.slice
          subst hv9
          have hatV := HRO.out.base_
          have hu7 : Upd (fun j => H + 1 + 1 + 1 ≤ j) Wc w7 := ((Upd.of_grew hG_w7).grown hP_w7 fun k hk => .inl hk).mono (fun j _ hj => hatV j hj)
          have hb4 := D4.out w7 hu7
          have hg7 : Grew w w7 := ((Upd.of_grew (S := fun j => H + 1 + 1 + 1 ≤ j) HGc.out).trans hu7).grew (fun i hi e => by have := HHE.out; omega)
          have HR7 := Lib.hid hro7
          clear hatV hu7 hro7 hP_w7 hG_w7 hOne hlrV
          go_wp2_with (first | refine wpList_store_blk (c := [.string a, .int .i64 q, .slice A9 (n + 1) c9]) hb4 (by rfl) 27 (.tmp 4) (.tmp 48) (by rfl) (by rfl) (by rfl) (by kernel_rfl) rfl (zA_one _ _ _ _ _) ?_)
          exact bodyPost_ret (results_ct rfl _ _ (H + 1 + 1) 27 ([.string a, .int .i64 q, .slice A9 (n + 1) c9] : List Value).toArray (0, 0) _ rfl (hb4.setRow ([.string a, .int .i64 q, .slice A9 (n + 1) c9] : List Value)) Try.underlying27 (by rfl) (by rfl)) rfl ⟨_, rfl, by
            rw [HLV.out]
            refine ⟨_, by rw [HQ.out]; rfl, ?_⟩
            have hsr : ∀ cc, Upd (fun j => j = H + 1 + 1) w7 (w7.setRow (H + 1 + 1) cc) := fun cc => Upd.setRow (S := fun j => j = H + 1 + 1) (Upd.refl _ _) (.inl rfl) cc
            have h := HR7.out.less (base := w.heap.size) (by have := HHE.out; omega)
            rw [← ens_snoc] at h
            rw [List.length_append, List.length_singleton]
            rw [← HN.out]; exact h.upd (hsr _) (fun j hj e => by have := HR7.out.base_ j hj; omega), Grew.setRow hg7 (by have := HHE.out; omega) _⟩
end Go.Proofs.Ytmifoihfpjomaaa.F

-- AudH
namespace Go.Proofs.Ytmifoihfpjomaaa.F
open Go Go.RowKit Go.Proofs.YtmifoihfpjomaaaW.PrintWords Go.Proofs.YtmifoihfpjomaaaW.PrintLast Go.Proofs.YtmifoihfpjomaaaW.PrintMore Go.Proofs.YtmifoihfpjomaaaM Go.Proofs.YtmifoihfpjomaaaR
attribute [local go_sem] max2_int min2_int max_two min_two
set_option linter.unusedSimpArgs false
set_option linter.unusedVariables false
set_option maxRecDepth 100000
end Go.Proofs.Ytmifoihfpjomaaa.F

-- AudS
namespace Go.Proofs.Ytmifoihfpjomaaa.F
open Go Go.RowKit Go.Proofs.YtmifoihfpjomaaaW.PrintWords Go.Proofs.YtmifoihfpjomaaaW.PrintLast Go.Proofs.YtmifoihfpjomaaaW.PrintMore Go.Proofs.YtmifoihfpjomaaaM Go.Proofs.YtmifoihfpjomaaaR
attribute [local go_sem] max2_int min2_int max_two min_two
set_option linter.unusedSimpArgs false
set_option linter.unusedVariables false
set_option maxRecDepth 100000
theorem eqEnA (d : Nat) (w : World) (x0 x1 x2 : Int) (x3 : ByteArray) (x4 y0 y1 y2 : Int) (y3 : ByteArray) (y4 : Int) :
    (Op.equalIn (d + 2) 36 (.agg #[.int .i64 x0, .int .i64 x1, .int .i64 x2, .string x3, .int .i64 x4]) (.agg #[.int .i64 y0, .int .i64 y1, .int .i64 y2, .string y3, .int .i64 y4])).run Try.prog w = .ok (x0 == y0 && (x1 == y1 && (x2 == y2 && (x3.toList == y3.toList && (x4 == y4))))) w := by
  refine eqA_of Try.underlying36 (by kernel_rfl) ?_
  refine eqf_cons (by rfl) (by go_simp; rfl) (by go_simp; rfl) (by go_simp) ?_
  refine eqf_cons (by rfl) (by go_simp; rfl) (by go_simp; rfl) (by go_simp) ?_
  refine eqf_cons (by rfl) (by go_simp; rfl) (by go_simp; rfl) (by go_simp) ?_
  refine eqf_cons (by rfl) (by go_simp; rfl) (by go_simp; rfl) (by go_simp) ?_
  exact eqf_last (by rfl) (by go_simp; rfl) (by go_simp; rfl) (by go_simp)
end Go.Proofs.Ytmifoihfpjomaaa.F

-- AudL
namespace Go.Proofs.Ytmifoihfpjomaaa.F
open Go Go.RowKit Go.Proofs.YtmifoihfpjomaaaW.PrintWords Go.Proofs.YtmifoihfpjomaaaW.PrintLast Go.Proofs.YtmifoihfpjomaaaW.PrintMore Go.Proofs.YtmifoihfpjomaaaM Go.Proofs.YtmifoihfpjomaaaR
attribute [local go_sem] max2_int min2_int max_two min_two
set_option linter.unusedSimpArgs false
set_option linter.unusedVariables false
set_option maxRecDepth 100000
/-- an audit whose entries are read -/
def AuV (a : ByteArray) (last : Int) (l : List En) : World → Value → Prop := fun w v => ∃ A c, v = .agg #[.string a, .int .i64 last, .slice A l.length c] ∧ l.length ≤ c ∧ Kd.C k36 w A l.length l
theorem AuV.stable (a : ByteArray) (last : Int) (l : List En) : ∀ w w' v, Grew w w' → AuV a last l w v → AuV a last l w' v := fun _ _ _ hg ⟨A, c, h1, h2, h3⟩ => ⟨A, c, h1, h2, Kd.C_below h3 hg⟩
theorem mine_c (a : ByteArray) (last : Int) (A : Option Addr) (c : Nat) (l : List En) (w : World) (hr : Kd.C k36 w A l.length l) (hc : l.length ≤ c) (hl : l.length ≤ 100000) :
    Calls Try.prog 16 #[.agg #[.string a, .int .i64 last, .slice A l.length c]] w (Tells w (AuV a last l)) := by
  refine (strongroomlaw13_mine.calls a last A c l a last l w hr hc (by unfold strongroomlaw13_mine.f; rw [if_pos (by simp; omega)]; rfl)).mono fun e w' ⟨v, he, hR, hb⟩ => ?_
  obtain ⟨A', c', rfl, hc', hC⟩ := Kd.R_reads hR
  exact ⟨_, he, ⟨A', c', rfl, hc', hC⟩, hb⟩
theorem anew_c (w : World) : Calls Try.prog 11 #[] w (Tells w (AuV (strOfNums (List.replicate 32 0)) 0 [])) := by
  refine (audit_New.calls (strOfNums (List.replicate 32 0)) 0 [] w (by unfold audit_New.f; rw [if_pos (by decide)])).mono fun e w' ⟨v, he, hR, hb⟩ => ?_
  obtain ⟨A', c', rfl, hc', hC⟩ := Kd.R_reads hR
  exact ⟨_, he, ⟨A', c', rfl, hc', hC⟩, hb⟩
theorem small_l0 (a : ByteArray) (last : Int) (l : List En) (hl : l.length ≤ 40) : ∀ (suf pre : List En) (k : Nat), l = pre ++ suf → suf.length + 1 ≤ k → ∃ b, strongroomlaw13_small.l0 k (pre.length : Int) a last l = some b := by
  intro suf
  induction suf with
  | nil =>
    intro pre k hp hk
    obtain ⟨k, rfl⟩ : ∃ m, k = m + 1 := ⟨k - 1, by omega⟩
    have : pre.length = l.length := by rw [hp]; simp
    simp only [strongroomlaw13_small.l0]
    rw [if_neg (by omega)]
    exact ⟨_, rfl⟩
  | cons e suf ih =>
    intro pre k hp hk
    obtain ⟨k, rfl⟩ : ∃ m, k = m + 1 := ⟨k - 1, by simp at hk; omega⟩
    have hlen : pre.length + (suf.length + 1) = l.length := by rw [hp]; simp
    simp only [strongroomlaw13_small.l0]
    rw [if_pos (by omega), if_pos (by omega)]
    split
    · exact ⟨_, rfl⟩
    · rw [w64 (x := (pre.length : Int) + 1) (by omega) (by omega)]
      have := ih (pre ++ [e]) k (by rw [hp]; simp) (by simp at hk; omega)
      rw [show (((pre ++ [e]).length : Nat) : Int) = (pre.length : Int) + 1 from by simp] at this
      exact this
theorem small_c (a : ByteArray) (last : Int) (l : List En) : ∃ b, (b = true → l.length ≤ 40) ∧ ∀ (w : World) (A : Option Addr) (c : Nat), Kd.C k36 w A l.length l → l.length ≤ c →
    Calls Try.prog 9 #[.agg #[.string a, .int .i64 last, .slice A l.length c]] w (Tells w (Is (.bool b))) := by
  have key : ∃ k b, strongroomlaw13_small.f k a last l = some b ∧ (b = true → l.length ≤ 40) := by
    unfold strongroomlaw13_small.f
    by_cases h : (l.length : Int) > 40
    · refine ⟨1, false, ?_, by simp⟩
      rw [if_pos h]; simp [strongroomlaw13_small.j0]
    · by_cases h2 : (a.size : Int) > 1000
      · refine ⟨1, false, ?_, by simp⟩
        rw [if_neg h, decide_eq_true h2]; simp [strongroomlaw13_small.j0]
      · obtain ⟨b, hb⟩ := small_l0 a last l (by omega) l [] (l.length + 1) rfl (Nat.le_refl _)
        refine ⟨l.length + 2, b, ?_, fun _ => by omega⟩
        rw [if_neg h, decide_eq_false h2]
        simp only [strongroomlaw13_small.j0]
        rw [if_neg (by simp)]
        exact hb
  obtain ⟨k, b, hf, hb⟩ := key
  exact ⟨b, hb, fun w A c hr hc => tells_is ((strongroomlaw13_small.calls k a last A c l b w hr hc hf).mono fun _ _ h => h)⟩
def Z32 : ByteArray := strOfNums (List.replicate 32 0)
theorem z32_size : Z32.size = 32 := by unfold Z32; rw [str_size, List.length_replicate]
set_option maxHeartbeats 4000000 in
theorem lives_c (w : World) : Calls Try.prog 10 #[] w (Tells w (Is (.bool true))) := by
  have hA := fun (w : World) (A : Option Addr) (c : Nat) (hr : Kd.C k36 w A 0 []) => add_c Z32 0 A c [] 0 3 1 ⟨#[97]⟩ 0 w hr (Nat.zero_le _)
  have hp : addP Z32 0 [] ⟨0, 3, 1, ⟨#[97]⟩, 0⟩ = some (Z32, [⟨1, 3, 1, ⟨#[97]⟩, 0⟩]) := by
    unfold addP
    have h1 : mayP Z32 0 [] = true := by unfold mayP; rw [z32_size]; rfl
    rw [h1]
    rfl
  rw [hp] at hA
  have HADD := Lib.hid hA
  have hgd : goodP ⟨1, 3, 1, ⟨#[97]⟩, 0⟩ = true := by rfl
  have HDG := Lib.hid (fun (w : World) (A : Option Addr) (c : Nat) (hr : Kd.C k36 w A 1 [⟨1, 3, 1, ⟨#[97]⟩, 0⟩]) (hc : 1 ≤ c) => digest_c Z32 1 A c [⟨1, 3, 1, ⟨#[97]⟩, 0⟩] w hr hc)
  have hdp : digP Z32 1 [⟨1, 3, 1, ⟨#[97]⟩, 0⟩] = strOfNums (sealL (bytesOf Z32) (bytesE ⟨1, 3, 1, ⟨#[97]⟩, 0⟩)) := by
    unfold digP
    have h1 : mayP Z32 1 [⟨1, 3, 1, ⟨#[97]⟩, 0⟩] = true := by unfold mayP; rw [z32_size]; rfl
    rw [h1]; rfl
  rw [hdp] at HDG
  obtain ⟨S, hS⟩ : ∃ S, S = strOfNums (sealL (bytesOf Z32) (bytesE ⟨1, 3, 1, ⟨#[97]⟩, 0⟩)) := ⟨_, rfl⟩
  obtain ⟨BY, hBY⟩ : ∃ BY, BY = strOfNums (bytesE ⟨1, 3, 1, ⟨#[97]⟩, 0⟩) := ⟨_, rfl⟩
  have HRB := Lib.hid (fun w => rbytes_c 1 3 1 ⟨#[97]⟩ 0 hgd w)
  have HSE := Lib.hid (fun w => seal_c w (bytesOf Z32) (bytesE ⟨1, 3, 1, ⟨#[97]⟩, 0⟩) (bytesOf_bytes _) (bytesE_bytes _) (by rw [bytesOf_length, z32_size]; omega) (by have := bytesE_len hgd; omega))
  rw [str_bytes, ← hBY, ← hS] at HSE
  rw [← hBY] at HRB
  rw [← hS] at HDG
  obtain ⟨Z, hZ⟩ : ∃ Z, Z = Z32 := ⟨_, rfl⟩
  have hZ2 : strOfNums (List.replicate 32 0) = Z := by rw [hZ]; rfl
  have HNEW := Lib.hid (fun w => anew_c w)
  rw [hZ2] at HNEW
  rw [← hZ] at HADD HDG HSE
  obtain ⟨L32, hL32⟩ : ∃ L : List Int, L = List.replicate 32 0 := ⟨_, rfl⟩
  have HL3 := Lib.hid (show L32.length = 32 from by rw [hL32, List.length_replicate])
  have HZ3 := Lib.hid (show strOfNums L32 = Z from by rw [hL32]; exact hZ2)
  have HL32 := Lib.hid hL32
  clear hL32
  have HZ2 := Lib.hid hZ2
  clear hA hp hdp hS hBY hZ hZ2 hgd
  go_enter Try.func10, Try.ntmps10
  go_wp2_with fail
  refine (HNEW.out w).mono ?_
  rintro e w1 ⟨_, rfl, ⟨A, c, rfl, hc, hC⟩, hg1⟩
  simp only [List.length_nil]
  go_wp2_with fail
  refine (HADD.out w1 A c hC).mono ?_
  rintro e w2 ⟨_, rfl, ⟨v0, rfl, hro⟩, hg2⟩
  obtain ⟨A2, c2, rfl, hc2, hC2⟩ := rowO_C hro rfl
  obtain ⟨g2, o2, cap2, hv2, -, -, -, hcell, -⟩ := hro.at_ (by simp)
  injection hv2 with hv21 hv22 hv23
  subst hv21 hv23
  simp only [List.length_cons, List.length_nil, Nat.zero_add] at hC2 hc2 hv22
  have c0 := hcell 0 (by simp)
  have c1 := hcell 1 (by simp)
  have c2' := hcell 2 (by simp)
  have c3 := hcell 3 (by simp)
  have c4 := hcell 4 (by simp)
  simp [ens, enc5] at c0 c1 c2' c3 c4
  obtain ⟨W3, hW3⟩ : ∃ W3, W3 = w2.alloc (.cells #[.string Z, .int .i64 1, .slice (some ⟨g2, o2, none⟩) 1 c2] 27) := ⟨_, rfl⟩
  obtain ⟨g3, hg3⟩ : ∃ g3, g3 = w2.heap.size := ⟨_, rfl⟩
  have hb3 : Blk W3 g3 27 [.string Z, .int .i64 1, .slice (some ⟨g2, o2, none⟩) 1 c2] := by rw [hW3, hg3]; exact Blk.new _ _ _
  have hgr3 : Grew w2 W3 := by rw [hW3]; exact Grew.alloc _ _
  have HB := Lib.hid (fun wx (h : Grew W3 wx) => And.intro ((hb3.grew h).at_ 0) (And.intro ((hb3.grew h).at_ 1) ((hb3.grew h).at_ 2)))
  simp only [List.getElem?_cons_zero, List.getElem?_cons_succ] at HB
  have HE := Lib.hid (fun wx (h : Grew W3 wx) => And.intro (pw_cell_below (Grew.trans hgr3 h) c0) (And.intro (pw_cell_below (Grew.trans hgr3 h) c1) (And.intro (pw_cell_below (Grew.trans hgr3 h) c2') (And.intro (pw_cell_below (Grew.trans hgr3 h) c3) (pw_cell_below (Grew.trans hgr3 h) c4)))))
  have HDD := Lib.hid (show ∀ wx, Grew W3 wx → Calls Try.prog 20 #[.agg #[.string Z, .int .i64 1, .slice (some ⟨g2, o2, none⟩) 1 c2]] wx (Tells wx (Is (.string S))) from fun wx h => HDG.out wx _ c2 (Kd.C_below hC2 (Grew.trans hgr3 h)) hc2)
  have HGW := Lib.hid (show Grew w W3 from Grew.trans (Grew.trans hg1 hg2) hgr3)
  have HWE := Lib.hid hW3
  have HGE := Lib.hid hg3
  clear hC2 hro hcell c0 c1 c2' c3 c4 hb3 hgr3 hW3 hg3 hC hg1 hg2 hv22
  go_wp2_with fail
  rw [← HWE.out]
  rw [← HGE.out]
  apply region_grew [Is _, Is _, Is _, Is _, Is _, Is _, Is _, Is _, Is _, Is _, Is _, Is _, Is _, Is _, Is _, Is _, Row L32, Is _, Is _, Is _, Is _, Is _, Is _] [([(2, none)], none), ([(9, some 0)], none), ([(10, some 1)], none), ([(1, none), (11, some 2)], some (11, true)), ([(12, some 3), (11, some 2)], some (11, true)), ([(13, some 4), (11, some 2)], some (11, true)), ([(11, some 2), (14, some 5)], none), ([(15, some 6)], none), ([(1, none), (16, some 7)], some (16, true)), ([(17, some 8), (16, some 7)], some (16, true)), ([(18, some 9), (16, some 7)], some (16, true)), ([(19, some 10), (16, some 7)], some (16, true)), ([(16, some 7), (20, some 11)], none), ([(21, some 12)], none), ([(1, none), (22, some 13)], some (22, true)), ([(23, some 14), (22, some 13)], some (22, true)), ([(22, some 13)], some (22, true)), ([(25, some 16), (22, some 13)], some (22, true)), ([(1, none), (22, some 13)], some (22, true)), ([(27, some 18), (22, some 13)], some (22, true)), ([(28, some 19), (22, some 13)], some (22, true)), ([(29, some 20), (22, some 13)], some (22, true)), ([(30, some 21), (22, some 13)], some (22, true))] [(25, 16), (9, 0), (10, 1), (11, 2), (12, 3), (13, 4), (14, 5), (15, 6), (16, 7), (17, 8), (18, 9), (19, 10), (20, 11), (21, 12), (22, 13), (23, 14), (24, 15), (26, 17), (27, 18), (28, 19), (29, 20), (30, 21), (31, 22)] rfl (by kernel_rfl) (by kernel_rfl) (show Stable Grew _ from ⟨Is.stable _, Is.stable _, Is.stable _, Is.stable _, Is.stable _, Is.stable _, Is.stable _, Is.stable _, Is.stable _, Is.stable _, Is.stable _, Is.stable _, Is.stable _, Is.stable _, Is.stable _, Is.stable _, Row.stable _, Is.stable _, Is.stable _, Is.stable _, Is.stable _, Is.stable _, Is.stable _, trivial⟩)
  · show OpsHold _ _ _ _ _ _ _ _ _
    refine ⟨fun a_ wx hR hD K hK => ?_, ?_⟩
    · have hG : Grew W3 wx := (Grew.drew _).trans hR
      simp [Deps, Dep, at_, Is] at hD
      go_simp
      exact hK _ _ (Grew.refl _) rfl
    refine ⟨fun a_ wx hR hD K hK => ?_, ?_⟩
    · have hG : Grew W3 wx := (Grew.drew _).trans hR
      simp [Deps, Dep, at_, Is] at hD
      go_simp
      exact hK _ _ (Grew.refl _) rfl
    refine ⟨fun a_ wx hR hD K hK => ?_, ?_⟩
    · have hG : Grew W3 wx := (Grew.drew _).trans hR
      simp [Deps, Dep, at_, Is] at hD
      go_simp
      exact hK _ _ (Grew.refl _) rfl
    refine ⟨fun a_ wx hR hD => ⟨fun hgd K hK => ?_, fun hgd => ?_⟩, ?_⟩
    · have hG : Grew W3 wx := (Grew.drew _).trans hR
      clear hgd
      simp [Deps, Dep, at_, Is] at hD
      obtain ⟨hd0, hd1⟩ := hD
      go_simp
      exact hK _ _ (Grew.refl _) rfl
    · have hG : Grew W3 wx := (Grew.drew _).trans hR
      exfalso
      simp [Deps, Dep, at_, Is] at hD
      simp_all
    refine ⟨fun a_ wx hR hD => ⟨fun hgd K hK => ?_, fun hgd => ?_⟩, ?_⟩
    · have hG : Grew W3 wx := (Grew.drew _).trans hR
      clear hgd
      simp [Deps, Dep, at_, Is] at hD
      obtain ⟨hd0, hd1⟩ := hD
      have e_ := (HB.out wx hG).2.1
      go_simp
      exact hK _ _ (Grew.refl _) rfl
    · have hG : Grew W3 wx := (Grew.drew _).trans hR
      exfalso
      simp [Deps, Dep, at_, Is] at hD
      simp_all
    refine ⟨fun a_ wx hR hD => ⟨fun hgd K hK => ?_, fun hgd => ?_⟩, ?_⟩
    · have hG : Grew W3 wx := (Grew.drew _).trans hR
      clear hgd
      simp [Deps, Dep, at_, Is] at hD
      obtain ⟨hd0, hd1⟩ := hD
      go_simp
      exact hK _ _ (Grew.refl _) rfl
    · have hG : Grew W3 wx := (Grew.drew _).trans hR
      exfalso
      simp [Deps, Dep, at_, Is] at hD
      simp_all
    refine ⟨fun a_ wx hR hD K hK => ?_, ?_⟩
    · have hG : Grew W3 wx := (Grew.drew _).trans hR
      simp [Deps, Dep, at_, Is] at hD
      obtain ⟨hd0, hd1⟩ := hD
      go_simp
      exact hK _ _ (Grew.refl _) rfl
    refine ⟨fun a_ wx hR hD K hK => ?_, ?_⟩
    · have hG : Grew W3 wx := (Grew.drew _).trans hR
      simp [Deps, Dep, at_, Is] at hD
      go_simp
      exact hK _ _ (Grew.refl _) rfl
    refine ⟨fun a_ wx hR hD => ⟨fun hgd K hK => ?_, fun hgd => ?_⟩, ?_⟩
    · have hG : Grew W3 wx := (Grew.drew _).trans hR
      clear hgd
      simp [Deps, Dep, at_, Is] at hD
      obtain ⟨hd0, hd1⟩ := hD
      go_simp
      exact hK _ _ (Grew.refl _) rfl
    · have hG : Grew W3 wx := (Grew.drew _).trans hR
      exfalso
      simp [Deps, Dep, at_, Is] at hD
      simp_all
    refine ⟨fun a_ wx hR hD => ⟨fun hgd K hK => ?_, fun hgd => ?_⟩, ?_⟩
    · have hG : Grew W3 wx := (Grew.drew _).trans hR
      clear hgd
      simp [Deps, Dep, at_, Is] at hD
      obtain ⟨hd0, hd1⟩ := hD
      have e_ := (HB.out wx hG).2.2
      go_simp
      exact hK _ _ (Grew.refl _) rfl
    · have hG : Grew W3 wx := (Grew.drew _).trans hR
      exfalso
      simp [Deps, Dep, at_, Is] at hD
      simp_all
    refine ⟨fun a_ wx hR hD => ⟨fun hgd K hK => ?_, fun hgd => ?_⟩, ?_⟩
    · have hG : Grew W3 wx := (Grew.drew _).trans hR
      clear hgd
      simp [Deps, Dep, at_, Is] at hD
      obtain ⟨hd0, hd1⟩ := hD
      go_simp
      exact hK _ _ (Grew.refl _) rfl
    · have hG : Grew W3 wx := (Grew.drew _).trans hR
      exfalso
      simp [Deps, Dep, at_, Is] at hD
      simp_all
    refine ⟨fun a_ wx hR hD => ⟨fun hgd K hK => ?_, fun hgd => ?_⟩, ?_⟩
    · have hG : Grew W3 wx := (Grew.drew _).trans hR
      clear hgd
      simp [Deps, Dep, at_, Is] at hD
      obtain ⟨hd0, hd1⟩ := hD
      go_simp
      exact hK _ _ (Grew.refl _) rfl
    · have hG : Grew W3 wx := (Grew.drew _).trans hR
      exfalso
      simp [Deps, Dep, at_, Is] at hD
      simp_all
    refine ⟨fun a_ wx hR hD K hK => ?_, ?_⟩
    · have hG : Grew W3 wx := (Grew.drew _).trans hR
      simp [Deps, Dep, at_, Is] at hD
      obtain ⟨hd0, hd1⟩ := hD
      go_simp
      exact hK _ _ (Grew.refl _) rfl
    refine ⟨fun a_ wx hR hD K hK => ?_, ?_⟩
    · have hG : Grew W3 wx := (Grew.drew _).trans hR
      simp [Deps, Dep, at_, Is] at hD
      go_simp
      exact hK _ _ (Grew.refl _) rfl
    refine ⟨fun a_ wx hR hD => ⟨fun hgd K hK => ?_, fun hgd => ?_⟩, ?_⟩
    · have hG : Grew W3 wx := (Grew.drew _).trans hR
      clear hgd
      simp [Deps, Dep, at_, Is] at hD
      obtain ⟨e0, e1, e2⟩ := HB.out wx hG
      go_simp
      exact hK _ _ (Grew.refl _) rfl
    · have hG : Grew W3 wx := (Grew.drew _).trans hR
      exfalso
      simp [Deps, Dep, at_, Is] at hD
      simp_all
    refine ⟨fun a_ wx hR hD => ⟨fun hgd K hK => ?_, fun hgd => ?_⟩, ?_⟩
    · have hG : Grew W3 wx := (Grew.drew _).trans hR
      clear hgd
      simp [Deps, Dep, at_, Is] at hD
      obtain ⟨hd0, hd1⟩ := hD
      go_simp
      have hcn := HDD.out wx hG
      with_reducible refine hcn.mono ?_
      clear hcn
      rintro e wy ⟨v, rfl, hv, hg⟩
      exact hK _ _ hg hv
    · have hG : Grew W3 wx := (Grew.drew _).trans hR
      exfalso
      simp [Deps, Dep, at_, Is] at hD
      simp_all
    refine ⟨fun a_ wx hR hD => ⟨fun hgd K hK => ?_, fun hgd => ?_⟩, ?_⟩
    · have hG : Grew W3 wx := (Grew.drew _).trans hR
      clear hgd
      simp [Deps, Dep, at_, Is] at hD
      have hmk := print_make (P := Try.prog) 45 5 .u8 1 Try.underlying45 info5 (by decide) 32 (by omega)
      rw [show ((32 : Nat) : Int) = 32 from rfl] at hmk
      go_simp
      obtain ⟨Am, cm, hvm, hnm, hcm, hCm⟩ := own_C (own_made wx wx.heap.size 5 .u8 32 (Nat.le_refl _) (by omega))
      exact hK _ _ (Grew.alloc _ _) ⟨Am, cm, by rw [HL3.out]; exact hvm, by rw [HL3.out]; exact hcm, by rw [HL3.out, HL32.out]; exact hCm⟩
    · have hG : Grew W3 wx := (Grew.drew _).trans hR
      exfalso
      simp [Deps, Dep, at_, Is] at hD
      simp_all
    refine ⟨fun a_ wx hR hD => ⟨fun hgd K hK => ?_, fun hgd => ?_⟩, ?_⟩
    · have hG : Grew W3 wx := (Grew.drew _).trans hR
      clear hgd
      simp [Deps, Dep, at_, Is] at hD
      obtain ⟨⟨A_, c_, hv_, -, hC_⟩, hd1⟩ := hD
      have hcv_ := Kd.C_string (P := Try.prog) (c := c_) Try.underlying45 Try.underlying5 Try.underlying9 hC_
      rw [HL3.out] at hv_ hcv_
      rw [HZ3.out] at hcv_
      clear hC_
      go_simp
      exact hK _ _ (Grew.refl _) rfl
    · have hG : Grew W3 wx := (Grew.drew _).trans hR
      exfalso
      simp [Deps, Dep, at_, Is] at hD
      simp_all
    refine ⟨fun a_ wx hR hD => ⟨fun hgd K hK => ?_, fun hgd => ?_⟩, ?_⟩
    · have hG : Grew W3 wx := (Grew.drew _).trans hR
      clear hgd
      simp [Deps, Dep, at_, Is] at hD
      obtain ⟨hd0, hd1⟩ := hD
      go_simp
      exact hK _ _ (Grew.refl _) rfl
    · have hG : Grew W3 wx := (Grew.drew _).trans hR
      exfalso
      simp [Deps, Dep, at_, Is] at hD
      simp_all
    refine ⟨fun a_ wx hR hD => ⟨fun hgd K hK => ?_, fun hgd => ?_⟩, ?_⟩
    · have hG : Grew W3 wx := (Grew.drew _).trans hR
      clear hgd
      simp [Deps, Dep, at_, Is] at hD
      obtain ⟨hd0, hd1⟩ := hD
      have e_ := (HB.out wx hG).2.2
      go_simp
      exact hK _ _ (Grew.refl _) rfl
    · have hG : Grew W3 wx := (Grew.drew _).trans hR
      exfalso
      simp [Deps, Dep, at_, Is] at hD
      simp_all
    refine ⟨fun a_ wx hR hD => ⟨fun hgd K hK => ?_, fun hgd => ?_⟩, ?_⟩
    · have hG : Grew W3 wx := (Grew.drew _).trans hR
      clear hgd
      simp [Deps, Dep, at_, Is] at hD
      obtain ⟨hd0, hd1⟩ := hD
      go_simp
      exact hK _ _ (Grew.refl _) rfl
    · have hG : Grew W3 wx := (Grew.drew _).trans hR
      exfalso
      simp [Deps, Dep, at_, Is] at hD
      simp_all
    refine ⟨fun a_ wx hR hD => ⟨fun hgd K hK => ?_, fun hgd => ?_⟩, ?_⟩
    · have hG : Grew W3 wx := (Grew.drew _).trans hR
      clear hgd
      simp [Deps, Dep, at_, Is] at hD
      obtain ⟨e0, e1, e2, e3, e4⟩ := HE.out wx hG
      go_simp
      exact hK _ _ (Grew.refl _) rfl
    · have hG : Grew W3 wx := (Grew.drew _).trans hR
      exfalso
      simp [Deps, Dep, at_, Is] at hD
      simp_all
    refine ⟨fun a_ wx hR hD => ⟨fun hgd K hK => ?_, fun hgd => ?_⟩, ?_⟩
    · have hG : Grew W3 wx := (Grew.drew _).trans hR
      clear hgd
      simp [Deps, Dep, at_, Is] at hD
      obtain ⟨hd0, hd1⟩ := hD
      go_simp
      have hcn := HRB.out wx
      with_reducible refine hcn.mono ?_
      clear hcn
      rintro e wy ⟨v, rfl, hv, hg⟩
      exact hK _ _ hg hv
    · have hG : Grew W3 wx := (Grew.drew _).trans hR
      exfalso
      simp [Deps, Dep, at_, Is] at hD
      simp_all
    trivial
  · show EndHold _ _ _ _ _ _ _
    intro v25
    refine end_all (xs := [_, _, _, _, _, _, _, _, _, _, _, _, _, _, _, _, _, _, _, _, _, _]) ⟨rfl, rfl, rfl, rfl, rfl, rfl, rfl, rfl, rfl, rfl, rfl, rfl, rfl, rfl, rfl, rfl, rfl, rfl, rfl, rfl, rfl, rfl, trivial⟩ ?_
    rintro w4 hR1 ⟨-, hMk⟩
    refine ⟨?_⟩
    have hG_w4 : Grew W3 w4 := (Grew.drew _).trans hR1
    clear hR1
    simp only [Act.put, List.setIfInBounds_toArray, List.set_cons_succ, List.set_cons_zero, dropN, putEach]
    go_wp2_with fail
    refine (HSE.out w4).mono ?_
    rintro e w5 ⟨_, rfl, rfl, hg5⟩
    go_wp2_with fail
    go_ret
    exact ⟨_, rfl, rfl, Grew.trans (Grew.trans HGW.out hG_w4) hg5⟩
end Go.Proofs.Ytmifoihfpjomaaa.F

-- AudO
namespace Go.Proofs.Ytmifoihfpjomaaa.F
open Go Go.RowKit Go.Proofs.YtmifoihfpjomaaaW.PrintWords Go.Proofs.YtmifoihfpjomaaaW.PrintLast Go.Proofs.YtmifoihfpjomaaaW.PrintMore Go.Proofs.YtmifoihfpjomaaaM Go.Proofs.YtmifoihfpjomaaaR
attribute [local go_sem] max2_int min2_int max_two min_two
set_option linter.unusedSimpArgs false
set_option linter.unusedVariables false
set_option maxRecDepth 100000
end Go.Proofs.Ytmifoihfpjomaaa.F

-- AudF
namespace Go.Proofs.Ytmifoihfpjomaaa.F
open Go Go.RowKit Go.Proofs.YtmifoihfpjomaaaW.PrintWords Go.Proofs.YtmifoihfpjomaaaW.PrintLast Go.Proofs.YtmifoihfpjomaaaW.PrintMore Go.Proofs.YtmifoihfpjomaaaM Go.Proofs.YtmifoihfpjomaaaR
attribute [local go_sem] max2_int min2_int max_two min_two
set_option linter.unusedSimpArgs false
set_option linter.unusedVariables false
set_option maxRecDepth 100000
theorem tl_iff (x y : ByteArray) : x.toList = y.toList ↔ x = y := ⟨fun h => by rw [ByteArray.toList_eq, ByteArray.toList_eq] at h; exact ByteArray.ext (Array.toList_inj.1 h), fun h => by rw [h]⟩
theorem tl_beq (x y : ByteArray) : (x.toList == y.toList) = true ↔ x = y := by rw [beq_iff_eq, tl_iff]
theorem eqE_iff (x y : En) : (x.f0 == y.f0 && (x.f1 == y.f1 && (x.f2 == y.f2 && (x.f3.toList == y.f3.toList && (x.f4 == y.f4))))) = true ↔ x = y := by
  obtain ⟨x0, x1, x2, x3, x4⟩ := x
  obtain ⟨y0, y1, y2, y3, y4⟩ := y
  simp [tl_iff]
theorem rd_getE {l : List En} {i : Nat} (h : i < l.length) : l[i]? = some (rd_T36 l (i : Int)) := by
  unfold rd_T36
  rw [Int.toNat_natCast, List.getD_eq_getElem?_getD, List.getElem?_eq_getElem h]; rfl
theorem mayL_at {s : Int} {l : List En} (h : mayL s l = true) {i : Nat} {e : En} (he : l[i]? = some e) : e.f0 = s + (i : Int) := by
  induction l generalizing s i with
  | nil => simp at he
  | cons x l ih =>
    simp only [mayL, Bool.and_eq_true, decide_eq_true_eq] at h
    cases i with
    | zero =>
      obtain rfl : x = e := by simpa using he
      simpa using h.2.1
    | succ i =>
      have := ih h.2.2 (by simpa using he)
      rw [this]; push_cast; omega
/-- one audit follows another one -/
def FolP (a : ByteArray) (la : Int) (l : List En) (b : ByteArray) (lb : Int) (m : List En) : Prop :=
  mayP a la l = true ∧ mayP b lb m = true ∧ la ≤ lb ∧
  (∀ (i : Nat) (e : En), l[i]? = some e → lb - (m.length : Int) + 1 ≤ e.f0 → m[(e.f0 - (lb - (m.length : Int) + 1)).toNat]? = some e) ∧
  (lb - (m.length : Int) ≤ la → digP a la l = strOfNums (chainE (bytesOf b) (m.take (la - (lb - (m.length : Int) + 1) + 1).toNat)))
noncomputable def folP (a : ByteArray) (la : Int) (l : List En) (b : ByteArray) (lb : Int) (m : List En) : Bool := @decide (FolP a la l b lb m) (Classical.propDecidable _)
theorem folP_true {a b : ByteArray} {la lb : Int} {l m : List En} (h : FolP a la l b lb m) : folP a la l b lb m = true := @decide_eq_true _ (Classical.propDecidable _) h
theorem folP_false {a b : ByteArray} {la lb : Int} {l m : List En} (h : ¬ FolP a la l b lb m) : folP a la l b lb m = false := @decide_eq_false _ (Classical.propDecidable _) h
set_option maxHeartbeats 8000000 in
theorem follows_c (a : ByteArray) (la : Int) (A : Option Addr) (ca : Nat) (l : List En) (b : ByteArray) (lb : Int) (B : Option Addr) (cb : Nat) (m : List En) (w : World)
    (hA : Kd.C k36 w A l.length l) (hca : l.length ≤ ca) (hB : Kd.C k36 w B m.length m) (hcb : m.length ≤ cb) :
    Calls Try.prog 25 #[.agg #[.string a, .int .i64 la, .slice A l.length ca], .agg #[.string b, .int .i64 lb, .slice B m.length cb]] w (Tells w (Is (.bool (folP a la l b lb m)))) := by
  have HMA := Lib.hid (fun wx (h : Grew w wx) => may_c a la A ca l wx (Kd.C_below hA h) hca)
  have HMB := Lib.hid (fun wx (h : Grew w wx) => may_c b lb B cb m wx (Kd.C_below hB h) hcb)
  have HDG := Lib.hid (fun wx (h : Grew w wx) => digest_c a la A ca l wx (Kd.C_below hA h) hca)
  have HCA := Lib.hid (fun wx (h : Grew w wx) => Kd.C_below hA h)
  have HCB := Lib.hid (fun wx (h : Grew w wx) => Kd.C_below hB h)
  obtain ⟨n, hn⟩ : ∃ n, n = l.length := ⟨_, rfl⟩
  obtain ⟨k, hk⟩ : ∃ k, k = m.length := ⟨_, rfl⟩
  have HN := Lib.hid hn
  have HK := Lib.hid hk
  rw [← hn] at HMA HDG HCA hca ⊢
  rw [← hk] at HMB HCB hcb ⊢
  obtain ⟨R, hR⟩ : ∃ R, R = folP a la l b lb m := ⟨_, rfl⟩
  rw [← hR]
  have HR := Lib.hid hR
  obtain ⟨W0, hW0⟩ : ∃ W0, W0 = (w.alloc (.cells #[.string a, .int .i64 la, .slice A n ca] 27)).alloc (.cells #[.string b, .int .i64 lb, .slice B k cb] 27) := ⟨_, rfl⟩
  obtain ⟨H, hH⟩ : ∃ H, H = w.heap.size := ⟨_, rfl⟩
  have hb0 : Blk W0 H 27 [.string a, .int .i64 la, .slice A n ca] := by rw [hW0, hH]; exact (Blk.new w _ _).grew (Grew.alloc _ _)
  have hb1 : Blk W0 (H + 1) 27 [.string b, .int .i64 lb, .slice B k cb] := by
    rw [hW0, hH]
    have := Blk.new (w.alloc (.cells #[.string a, .int .i64 la, .slice A n ca] 27)) 27 [.string b, .int .i64 lb, .slice B k cb]
    simpa using this
  have hg0 : Grew w W0 := by rw [hW0]; exact (Grew.alloc _ _).trans (Grew.alloc _ _)
  have CB0 := Lib.hid (fun wx (h : Grew W0 wx) => And.intro ((hb0.grew h).at_ 0) (And.intro ((hb0.grew h).at_ 1) ((hb0.grew h).at_ 2)))
  have CB1 := Lib.hid (fun wx (h : Grew W0 wx) => And.intro ((hb1.grew h).at_ 0) (And.intro ((hb1.grew h).at_ 1) ((hb1.grew h).at_ 2)))
  simp only [List.getElem?_cons_zero, List.getElem?_cons_succ] at CB0 CB1
  have HG0 := Lib.hid hg0
  have HWE := Lib.hid hW0
  have HHE := Lib.hid hH
  clear hA hB hn hk hR hb0 hb1 hg0 hW0 hH
  go_enter Try.func25, Try.ntmps25
  go_wp2_with fail
  rw [← HWE.out]
  rw [← HHE.out]
  refine (HMA.out W0 HG0.out).mono ?_
  rintro e w1 ⟨_, rfl, rfl, hg1⟩
  obtain ⟨c0, c1, c2⟩ := CB0.out w1 hg1
  obtain ⟨d0, d1, d2⟩ := CB1.out w1 hg1
  obtain ⟨ma, hma⟩ : ∃ x, x = mayP a la l := ⟨_, rfl⟩
  rw [← hma]
  have HMAE := Lib.hid hma
  clear hma
  cases ma with
  | false =>
    go_wp2_with fail
    go_ret
    exact ⟨_, rfl, by rw [HR.out, folP_false (fun h => by have := h.1; rw [← HMAE.out] at this; cases this)]; rfl, Grew.trans HG0.out hg1⟩
  | true =>
    go_wp2_with fail
    refine (HMB.out w1 (Grew.trans HG0.out hg1)).mono ?_
    rintro e w2 ⟨_, rfl, rfl, hg2⟩
    have hg2' := Grew.trans hg1 hg2
    clear c0 c1 c2 d0 d1 d2
    obtain ⟨c0, c1, c2⟩ := CB0.out w2 hg2'
    obtain ⟨d0, d1, d2⟩ := CB1.out w2 hg2'
    obtain ⟨mb, hmb⟩ : ∃ x, x = mayP b lb m := ⟨_, rfl⟩
    rw [← hmb]
    have HMBE := Lib.hid hmb
    clear hmb
    cases mb with
    | false =>
      go_wp2_with fail
      go_ret
      exact ⟨_, rfl, by rw [HR.out, folP_false (fun h => by have := h.2.1; rw [← HMBE.out] at this; cases this)]; rfl, Grew.trans HG0.out hg2'⟩
    | true =>
      by_cases hab : la ≤ lb
      · have x1 : decide (lb < la) = false := decide_eq_false (by omega)
        have ra := mayR HMAE.out.symm
        have rb := mayR HMBE.out.symm
        have a0 := ra.l0
        have a1 := ra.l1
        have b0 := rb.l0
        have b1 := rb.l1
        have an := ra.len
        have bn := rb.len
        rw [← HN.out] at an
        rw [← HK.out] at bn
        obtain ⟨F, hF⟩ : ∃ F, F = lb - (k : Int) := ⟨_, rfl⟩
        have u1 : IntKind.i64.wrap (lb - (k : Int)) = F := by rw [IntWalk.i64_in _ (by omega)]; omega
        have u2 : IntKind.i64.wrap (F + 1) = F + 1 := IntWalk.i64_in _ (by omega)
        have RA := Lib.hid ra
        have RB := Lib.hid rb
        clear ra rb
        have HEQ := Lib.hid (fun (x y : En) (w' : World) => show (Op.equalIn 10000 36 (.agg #[.int .i64 x.f0, .int .i64 x.f1, .int .i64 x.f2, .string x.f3, .int .i64 x.f4]) (.agg #[.int .i64 y.f0, .int .i64 y.f1, .int .i64 y.f2, .string y.f3, .int .i64 y.f4])).run Try.prog w' = .ok _ w' from eqEnA 9998 w' x.f0 x.f1 x.f2 x.f3 x.f4 y.f0 y.f1 y.f2 y.f3 y.f4)
        have HHF := Lib.hid hF
        have HBN := Lib.hid bn
        have HAN := Lib.hid an
        have HAB := Lib.hid hab
        have HA0 := Lib.hid (And.intro a0 (And.intro a1 (And.intro b0 b1)))
        have n8 : n ≤ 8 := by omega
        have k8 : k ≤ 8 := by omega
        clear hF an bn hab a0 a1 b0 b1
        go_wp2_with fail
        clear c0 c1 c2 d0 d1 d2 u1 u2
        go_loopw [33] (fun iv wr => ∃ i : Nat, iv = .int .i64 (i : Int) ∧ i ≤ n ∧ (∀ (j : Nat) (e : En), j < i → l[j]? = some e → F + 1 ≤ e.f0 → m[(e.f0 - (F + 1)).toNat]? = some e) ∧ Grew W0 wr) (fun iv _ => n - (intOf iv).toNat)
        case atStart => exact ⟨0, rfl, Nat.zero_le _, fun j e hj => absurd hj (Nat.not_lt_zero _), hg2'⟩
        case round =>
          obtain ⟨i, rfl, hi, hag, hgr⟩ := hrel
          have HGR := Lib.hid hgr
          have HAG := Lib.hid hag
          clear hg2' hg2 hg1 hgr hag
          by_cases hlt : i < n
          · have d1 : decide ((i : Int) < (n : Int)) = true := decide_eq_true (by omega)
            have d2 : decide (i < n) = true := decide_eq_true hlt
            have i1 : (i : Int) < (n : Int) := by omega
            obtain ⟨ad1, rfl, a0, a1, a2, a3, a4⟩ := at_T36 (HCA.out wr (Grew.trans HG0.out HGR.out)) (i : Int) (by omega) i1
            obtain ⟨e, he⟩ : ∃ e, e = rd_T36 l (i : Int) := ⟨_, rfl⟩
            have hei : l[i]? = some e := by rw [he]; exact rd_getE (by rw [← HN.out]; exact hlt)
            have hes := mayL_at RA.out.seq hei
            rw [← HN.out] at hes
            rw [Int.toNat_natCast, ← he] at a0 a1 a2 a3 a4
            obtain ⟨W7, hW7⟩ : ∃ W7, W7 = wr.alloc (.cells #[.int .i64 e.f0, .int .i64 e.f1, .int .i64 e.f2, .string e.f3, .int .i64 e.f4] 36) := ⟨_, rfl⟩
            obtain ⟨g7, hg7⟩ : ∃ g7, g7 = wr.heap.size := ⟨_, rfl⟩
            have hb7 : Blk W7 g7 36 [.int .i64 e.f0, .int .i64 e.f1, .int .i64 e.f2, .string e.f3, .int .i64 e.f4] := by rw [hW7, hg7]; exact Blk.new _ _ _
            have hgr7 : Grew wr W7 := by rw [hW7]; exact Grew.alloc _ _
            have H7 := Lib.hid (fun wx (h : Grew W7 wx) => And.intro ((hb7.grew h).at_ 0) (And.intro ((hb7.grew h).at_ 1) (And.intro ((hb7.grew h).at_ 2) (And.intro ((hb7.grew h).at_ 3) ((hb7.grew h).at_ 4)))))
            simp only [List.getElem?_cons_zero, List.getElem?_cons_succ] at H7
            have HG7 := Lib.hid (Grew.trans HGR.out hgr7)
            have HW7 := Lib.hid hW7
            have HE7 := Lib.hid hg7
            have HEI := Lib.hid hei
            have HES := Lib.hid hes
            have hW7' := hW7
            clear he hei hes hb7 hgr7 hW7 hg7
            go_wp2_with fail
            rw [← HW7.out]
            rw [← HE7.out]
            clear a0 a1 a2 a3 a4 hW7'
            by_cases hf : F + 1 ≤ e.f0
            · obtain ⟨j, hj⟩ : ∃ j : Nat, e.f0 - (F + 1) = (j : Int) := ⟨(e.f0 - (F + 1)).toNat, by omega⟩
              have hjk : j < k := by
                have h1 := HES.out; have h2 := HHF.out; have h3 := HAB.out
                omega
              have u3 : IntKind.i64.wrap (e.f0 - (F + 1)) = (j : Int) := by rw [IntWalk.i64_in _ (by omega)]; exact hj
              have u7 : IntKind.i64.wrap (j : Int) = (j : Int) := IntWalk.i64_in _ (by omega)
              have i2 : (j : Int) < (k : Int) := by omega
              have y1 : decide (F + 1 ≤ e.f0) = true := decide_eq_true hf
              obtain ⟨ad2, rfl, b0, b1, b2, b3, b4⟩ := at_T36 (HCB.out W7 (Grew.trans HG0.out HG7.out)) (j : Int) (by omega) i2
              obtain ⟨y, hy⟩ : ∃ y, y = rd_T36 m (j : Int) := ⟨_, rfl⟩
              have hyj : m[j]? = some y := by rw [hy]; exact rd_getE (by rw [← HK.out]; exact hjk)
              rw [Int.toNat_natCast, ← hy] at b0 b1 b2 b3 b4
              have HBC := Lib.hid (fun wx (h : Grew W7 wx) => And.intro (pw_cell_below h b0) (And.intro (pw_cell_below h b1) (And.intro (pw_cell_below h b2) (And.intro (pw_cell_below h b3) (pw_cell_below h b4)))))
              have heq := HEQ.out y e
              have hiff := eqE_iff y e
              obtain ⟨E, hE⟩ : ∃ E, E = (y.f0 == e.f0 && (y.f1 == e.f1 && (y.f2 == e.f2 && (y.f3.toList == e.f3.toList && (y.f4 == e.f4))))) := ⟨_, rfl⟩
              rw [← hE] at heq hiff
              have HEE := Lib.hid heq
              have HIF := Lib.hid hiff
              have HYJ := Lib.hid hyj
              have HJ := Lib.hid hj
              have HF' := Lib.hid hf
              clear hy hyj b0 b1 b2 b3 b4 heq hiff hE hj hf
              apply region_grew [Is _, Is _, Is _, Is _, Is _, Is _, Is _, Is _, Is _, Is _, Is _, Is _, Is _, Is _] [([(7, none)], none), ([(37, some 0)], none), ([(5, none)], none), ([(38, some 1), (39, some 2)], none), ([(40, some 3)], none), ([(3, none), (41, some 4)], some (41, true)), ([(42, some 5), (41, some 4)], some (41, true)), ([(7, none), (41, some 4)], some (41, true)), ([(44, some 7), (41, some 4)], some (41, true)), ([(5, none), (41, some 4)], some (41, true)), ([(45, some 8), (46, some 9), (41, some 4)], some (41, true)), ([(43, some 6), (47, some 10), (41, some 4)], some (41, true)), ([(48, some 11), (41, some 4)], some (41, true)), ([(7, none), (41, some 4)], some (41, true))] [(37, 0), (38, 1), (39, 2), (40, 3), (41, 4), (42, 5), (43, 6), (44, 7), (45, 8), (46, 9), (47, 10), (48, 11), (49, 12), (50, 13)] rfl (by kernel_rfl) (by kernel_rfl) (show Stable Grew _ from ⟨Is.stable _, Is.stable _, Is.stable _, Is.stable _, Is.stable _, Is.stable _, Is.stable _, Is.stable _, Is.stable _, Is.stable _, Is.stable _, Is.stable _, Is.stable _, Is.stable _, trivial⟩)
              · show OpsHold _ _ _ _ _ _ _ _ _
                refine ⟨fun a_ wx hR hD K hK => ?_, ?_⟩
                · have hG : Grew W7 wx := (Grew.drew _).trans hR
                  simp [Deps, Dep, at_, Is] at hD
                  go_simp
                  exact hK _ _ (Grew.refl _) rfl
                refine ⟨fun a_ wx hR hD K hK => ?_, ?_⟩
                · have hG : Grew W7 wx := (Grew.drew _).trans hR
                  simp [Deps, Dep, at_, Is] at hD
                  obtain ⟨e0, e1, e2, e3, e4⟩ := H7.out wx hG
                  go_simp
                  exact hK _ _ (Grew.refl _) rfl
                refine ⟨fun a_ wx hR hD K hK => ?_, ?_⟩
                · have hG : Grew W7 wx := (Grew.drew _).trans hR
                  simp [Deps, Dep, at_, Is] at hD
                  go_simp
                  exact hK _ _ (Grew.refl _) rfl
                refine ⟨fun a_ wx hR hD K hK => ?_, ?_⟩
                · have hG : Grew W7 wx := (Grew.drew _).trans hR
                  simp [Deps, Dep, at_, Is] at hD
                  obtain ⟨hd0, hd1⟩ := hD
                  go_simp
                  exact hK _ _ (Grew.refl _) rfl
                refine ⟨fun a_ wx hR hD K hK => ?_, ?_⟩
                · have hG : Grew W7 wx := (Grew.drew _).trans hR
                  simp [Deps, Dep, at_, Is] at hD
                  go_simp
                  exact hK _ _ (Grew.refl _) rfl
                refine ⟨fun a_ wx hR hD => ⟨fun hgd K hK => ?_, fun hgd => ?_⟩, ?_⟩
                · have hG : Grew W7 wx := (Grew.drew _).trans hR
                  clear hgd
                  simp [Deps, Dep, at_, Is] at hD
                  obtain ⟨hd0, hd1⟩ := hD
                  go_simp
                  exact hK _ _ (Grew.refl _) rfl
                · have hG : Grew W7 wx := (Grew.drew _).trans hR
                  exfalso
                  simp [Deps, Dep, at_, Is] at hD
                  simp_all
                refine ⟨fun a_ wx hR hD => ⟨fun hgd K hK => ?_, fun hgd => ?_⟩, ?_⟩
                · have hG : Grew W7 wx := (Grew.drew _).trans hR
                  clear hgd
                  simp [Deps, Dep, at_, Is] at hD
                  obtain ⟨hd0, hd1⟩ := hD
                  obtain ⟨e0, e1, e2⟩ := CB1.out wx (Grew.trans HG7.out hG)
                  go_simp
                  exact hK _ _ (Grew.refl _) rfl
                · have hG : Grew W7 wx := (Grew.drew _).trans hR
                  exfalso
                  simp [Deps, Dep, at_, Is] at hD
                  simp_all
                refine ⟨fun a_ wx hR hD => ⟨fun hgd K hK => ?_, fun hgd => ?_⟩, ?_⟩
                · have hG : Grew W7 wx := (Grew.drew _).trans hR
                  clear hgd
                  simp [Deps, Dep, at_, Is] at hD
                  obtain ⟨hd0, hd1⟩ := hD
                  go_simp
                  exact hK _ _ (Grew.refl _) rfl
                · have hG : Grew W7 wx := (Grew.drew _).trans hR
                  exfalso
                  simp [Deps, Dep, at_, Is] at hD
                  simp_all
                refine ⟨fun a_ wx hR hD => ⟨fun hgd K hK => ?_, fun hgd => ?_⟩, ?_⟩
                · have hG : Grew W7 wx := (Grew.drew _).trans hR
                  clear hgd
                  simp [Deps, Dep, at_, Is] at hD
                  obtain ⟨hd0, hd1⟩ := hD
                  obtain ⟨e0, e1, e2, e3, e4⟩ := H7.out wx hG
                  go_simp
                  exact hK _ _ (Grew.refl _) rfl
                · have hG : Grew W7 wx := (Grew.drew _).trans hR
                  exfalso
                  simp [Deps, Dep, at_, Is] at hD
                  simp_all
                refine ⟨fun a_ wx hR hD => ⟨fun hgd K hK => ?_, fun hgd => ?_⟩, ?_⟩
                · have hG : Grew W7 wx := (Grew.drew _).trans hR
                  clear hgd
                  simp [Deps, Dep, at_, Is] at hD
                  obtain ⟨hd0, hd1⟩ := hD
                  go_simp
                  exact hK _ _ (Grew.refl _) rfl
                · have hG : Grew W7 wx := (Grew.drew _).trans hR
                  exfalso
                  simp [Deps, Dep, at_, Is] at hD
                  simp_all
                refine ⟨fun a_ wx hR hD => ⟨fun hgd K hK => ?_, fun hgd => ?_⟩, ?_⟩
                · have hG : Grew W7 wx := (Grew.drew _).trans hR
                  clear hgd
                  simp [Deps, Dep, at_, Is] at hD
                  obtain ⟨hd0, hd1, hd2⟩ := hD
                  go_simp
                  exact hK _ _ (Grew.refl _) rfl
                · have hG : Grew W7 wx := (Grew.drew _).trans hR
                  exfalso
                  simp [Deps, Dep, at_, Is] at hD
                  simp_all
                refine ⟨fun a_ wx hR hD => ⟨fun hgd K hK => ?_, fun hgd => ?_⟩, ?_⟩
                · have hG : Grew W7 wx := (Grew.drew _).trans hR
                  clear hgd
                  simp [Deps, Dep, at_, Is] at hD
                  obtain ⟨hd0, hd1, hd2⟩ := hD
                  go_simp
                  exact hK _ _ (Grew.refl _) rfl
                · have hG : Grew W7 wx := (Grew.drew _).trans hR
                  exfalso
                  simp [Deps, Dep, at_, Is] at hD
                  simp_all
                refine ⟨fun a_ wx hR hD => ⟨fun hgd K hK => ?_, fun hgd => ?_⟩, ?_⟩
                · have hG : Grew W7 wx := (Grew.drew _).trans hR
                  clear hgd
                  simp [Deps, Dep, at_, Is] at hD
                  obtain ⟨hd0, hd1⟩ := hD
                  obtain ⟨e0, e1, e2, e3, e4⟩ := HBC.out wx hG
                  go_simp
                  exact hK _ _ (Grew.refl _) rfl
                · have hG : Grew W7 wx := (Grew.drew _).trans hR
                  exfalso
                  simp [Deps, Dep, at_, Is] at hD
                  simp_all
                refine ⟨fun a_ wx hR hD => ⟨fun hgd K hK => ?_, fun hgd => ?_⟩, ?_⟩
                · have hG : Grew W7 wx := (Grew.drew _).trans hR
                  clear hgd
                  simp [Deps, Dep, at_, Is] at hD
                  obtain ⟨hd0, hd1⟩ := hD
                  obtain ⟨e0, e1, e2, e3, e4⟩ := H7.out wx hG
                  go_simp
                  exact hK _ _ (Grew.refl _) rfl
                · have hG : Grew W7 wx := (Grew.drew _).trans hR
                  exfalso
                  simp [Deps, Dep, at_, Is] at hD
                  simp_all
                trivial
              · show EndHold _ _ _ _ _ _ _
                refine end_all (xs := [_, _, _, _, _, _, _, _, _, _, _, _, _, _]) ⟨rfl, rfl, rfl, rfl, rfl, rfl, rfl, rfl, rfl, rfl, rfl, rfl, rfl, rfl, trivial⟩ ?_
                rintro w8 hR1 -
                refine ⟨?_⟩
                have hG_w8 : Grew W7 w8 := (Grew.drew _).trans hR1
                clear hR1
                simp only [Act.put, List.setIfInBounds_toArray, List.set_cons_succ, List.set_cons_zero, dropN, putEach]
                cases E with
                | true =>
                  have e_ := HEE.out
                  go_wp2_with fail
                  clear e_
                  go_roundw
                  case rel => exact ⟨i + 1, by go_num, by omega, fun j' e' hj' he' hf' => by
                    rcases Nat.lt_or_ge j' i with h | h
                    · exact HAG.out j' e' h he' hf'
                    · obtain rfl : j' = i := by omega
                      rw [HEI.out] at he'
                      obtain rfl := Option.some.inj he'
                      rw [HJ.out, Int.toNat_natCast, HYJ.out, HIF.out.1 rfl], Grew.trans HG7.out hG_w8⟩
                  case measure => simp [intOf]; omega
                | false =>
                  have hno : ¬ FolP a la l b lb m := fun h => by
                    have h4 := h.2.2.2.1 i e HEI.out (by rw [← HK.out, ← HHF.out]; exact HF'.out)
                    rw [← HK.out, ← HHF.out, HJ.out, Int.toNat_natCast, HYJ.out] at h4
                    have := HIF.out.2 (Option.some.inj h4)
                    cases this
                  have HR0 := Lib.hid (HR.out.trans (folP_false hno))
                  clear hno
                  have e_ := HEE.out
                  go_wp2_with fail
                  go_ret
                  exact ⟨_, rfl, by rw [HR0.out]; rfl, Grew.trans HG0.out (Grew.trans HG7.out hG_w8)⟩
            · have y1 : decide (F + 1 ≤ e.f0) = false := decide_eq_false hf
              have HF' := Lib.hid hf
              clear hf
              apply region_grew [Is _, Is _, Is _, Is _, Is _, Is undef, Is undef, Is undef, Is undef, Is undef, Is undef, Is undef, Is undef, Is undef] [([(7, none)], none), ([(37, some 0)], none), ([(5, none)], none), ([(38, some 1), (39, some 2)], none), ([(40, some 3)], none), ([(3, none), (41, some 4)], some (41, true)), ([(42, some 5), (41, some 4)], some (41, true)), ([(7, none), (41, some 4)], some (41, true)), ([(44, some 7), (41, some 4)], some (41, true)), ([(5, none), (41, some 4)], some (41, true)), ([(45, some 8), (46, some 9), (41, some 4)], some (41, true)), ([(43, some 6), (47, some 10), (41, some 4)], some (41, true)), ([(48, some 11), (41, some 4)], some (41, true)), ([(7, none), (41, some 4)], some (41, true))] [(37, 0), (38, 1), (39, 2), (40, 3), (41, 4), (42, 5), (43, 6), (44, 7), (45, 8), (46, 9), (47, 10), (48, 11), (49, 12), (50, 13)] rfl (by kernel_rfl) (by kernel_rfl) (show Stable Grew _ from ⟨Is.stable _, Is.stable _, Is.stable _, Is.stable _, Is.stable _, Is.stable _, Is.stable _, Is.stable _, Is.stable _, Is.stable _, Is.stable _, Is.stable _, Is.stable _, Is.stable _, trivial⟩)
              · show OpsHold _ _ _ _ _ _ _ _ _
                refine ⟨fun a_ wx hR hD K hK => ?_, ?_⟩
                · have hG : Grew W7 wx := (Grew.drew _).trans hR
                  simp [Deps, Dep, at_, Is] at hD
                  go_simp
                  exact hK _ _ (Grew.refl _) rfl
                refine ⟨fun a_ wx hR hD K hK => ?_, ?_⟩
                · have hG : Grew W7 wx := (Grew.drew _).trans hR
                  simp [Deps, Dep, at_, Is] at hD
                  obtain ⟨e0, e1, e2, e3, e4⟩ := H7.out wx hG
                  go_simp
                  exact hK _ _ (Grew.refl _) rfl
                refine ⟨fun a_ wx hR hD K hK => ?_, ?_⟩
                · have hG : Grew W7 wx := (Grew.drew _).trans hR
                  simp [Deps, Dep, at_, Is] at hD
                  go_simp
                  exact hK _ _ (Grew.refl _) rfl
                refine ⟨fun a_ wx hR hD K hK => ?_, ?_⟩
                · have hG : Grew W7 wx := (Grew.drew _).trans hR
                  simp [Deps, Dep, at_, Is] at hD
                  obtain ⟨hd0, hd1⟩ := hD
                  go_simp
                  exact hK _ _ (Grew.refl _) rfl
                refine ⟨fun a_ wx hR hD K hK => ?_, ?_⟩
                · have hG : Grew W7 wx := (Grew.drew _).trans hR
                  simp [Deps, Dep, at_, Is] at hD
                  go_simp
                  exact hK _ _ (Grew.refl _) rfl
                refine ⟨fun a_ wx hR hD => ⟨fun hgd K hK => ?_, fun hgd => ?_⟩, ?_⟩
                · have hG : Grew W7 wx := (Grew.drew _).trans hR
                  exfalso
                  simp [Deps, Dep, at_, Is] at hD
                  simp_all
                · exact rfl
                refine ⟨fun a_ wx hR hD => ⟨fun hgd K hK => ?_, fun hgd => ?_⟩, ?_⟩
                · have hG : Grew W7 wx := (Grew.drew _).trans hR
                  exfalso
                  simp [Deps, Dep, at_, Is] at hD
                  simp_all
                · exact rfl
                refine ⟨fun a_ wx hR hD => ⟨fun hgd K hK => ?_, fun hgd => ?_⟩, ?_⟩
                · have hG : Grew W7 wx := (Grew.drew _).trans hR
                  exfalso
                  simp [Deps, Dep, at_, Is] at hD
                  simp_all
                · exact rfl
                refine ⟨fun a_ wx hR hD => ⟨fun hgd K hK => ?_, fun hgd => ?_⟩, ?_⟩
                · have hG : Grew W7 wx := (Grew.drew _).trans hR
                  exfalso
                  simp [Deps, Dep, at_, Is] at hD
                  simp_all
                · exact rfl
                refine ⟨fun a_ wx hR hD => ⟨fun hgd K hK => ?_, fun hgd => ?_⟩, ?_⟩
                · have hG : Grew W7 wx := (Grew.drew _).trans hR
                  exfalso
                  simp [Deps, Dep, at_, Is] at hD
                  simp_all
                · exact rfl
                refine ⟨fun a_ wx hR hD => ⟨fun hgd K hK => ?_, fun hgd => ?_⟩, ?_⟩
                · have hG : Grew W7 wx := (Grew.drew _).trans hR
                  exfalso
                  simp [Deps, Dep, at_, Is] at hD
                  simp_all
                · exact rfl
                refine ⟨fun a_ wx hR hD => ⟨fun hgd K hK => ?_, fun hgd => ?_⟩, ?_⟩
                · have hG : Grew W7 wx := (Grew.drew _).trans hR
                  exfalso
                  simp [Deps, Dep, at_, Is] at hD
                  simp_all
                · exact rfl
                refine ⟨fun a_ wx hR hD => ⟨fun hgd K hK => ?_, fun hgd => ?_⟩, ?_⟩
                · have hG : Grew W7 wx := (Grew.drew _).trans hR
                  exfalso
                  simp [Deps, Dep, at_, Is] at hD
                  simp_all
                · exact rfl
                refine ⟨fun a_ wx hR hD => ⟨fun hgd K hK => ?_, fun hgd => ?_⟩, ?_⟩
                · have hG : Grew W7 wx := (Grew.drew _).trans hR
                  exfalso
                  simp [Deps, Dep, at_, Is] at hD
                  simp_all
                · exact rfl
                trivial
              · show EndHold _ _ _ _ _ _ _
                refine end_all (xs := [_, _, _, _, _, _, _, _, _, _, _, _, _, _]) ⟨rfl, rfl, rfl, rfl, rfl, rfl, rfl, rfl, rfl, rfl, rfl, rfl, rfl, rfl, trivial⟩ ?_
                rintro w8 hR1 -
                refine ⟨?_⟩
                have hG_w8 : Grew W7 w8 := (Grew.drew _).trans hR1
                clear hR1
                simp only [Act.put, List.setIfInBounds_toArray, List.set_cons_succ, List.set_cons_zero, dropN, putEach]
                go_wp2_with fail
                go_roundw
                case rel => exact ⟨i + 1, by go_num, by omega, fun j e' hj he' hf' => by
                  rcases Nat.lt_or_ge j i with h | h
                  · exact HAG.out j e' h he' hf'
                  · obtain rfl : j = i := by omega
                    rw [HEI.out] at he'
                    obtain rfl := Option.some.inj he'
                    exact absurd hf' HF'.out, Grew.trans HG7.out hG_w8⟩
                case measure => simp [intOf]; omega
          · obtain rfl : n = i := by omega
            have d1 : decide ((n : Int) < (n : Int)) = false := decide_eq_false (by omega)
            have d2 : decide (n < n) = false := decide_eq_false (by omega)
            obtain ⟨c0, c1, c2⟩ := CB0.out wr HGR.out
            have u5 : IntKind.i64.wrap (F + 1 - 1) = F := by have h1 := HA0.out; have h2 := HHF.out; have h3 := HBN.out; rw [IntWalk.i64_in _ (by omega)]; omega
            have u6 : IntKind.i64.wrap F = F := by have h1 := HA0.out; have h2 := HHF.out; have h3 := HBN.out; exact IntWalk.i64_in _ (by omega)
            by_cases hlf : la < F
            · have y1 : decide (la < F) = true := decide_eq_true hlf
              have hyes : FolP a la l b lb m := by
                have h2 := HHF.out
                refine ⟨HMAE.out.symm, HMBE.out.symm, HAB.out, fun j e hj hf => ?_, fun h => ?_⟩
                · rw [← HK.out, ← h2] at hf ⊢
                  exact HAG.out j e (by rw [HN.out]; exact (List.getElem?_eq_some_iff.1 hj).1) hj hf
                · rw [← HK.out, ← h2] at h; omega
              have HR0 := Lib.hid (HR.out.trans (folP_true hyes))
              clear hyes
              go_wp2_with fail
              go_ret
              exact ⟨_, rfl, by rw [HR0.out]; rfl, Grew.trans HG0.out HGR.out⟩
            · have y1 : decide (la < F) = false := decide_eq_false hlf
              go_wp2_with fail
              clear c0 c1 c2
              obtain ⟨q, hq⟩ : ∃ q : Nat, la - F = (q : Int) := ⟨(la - F).toNat, by omega⟩
              have h1 := HA0.out
              have h2 := HHF.out
              have h3 := HAB.out
              have hqk : q ≤ k := by omega
              have v1 : IntKind.i64.wrap (la - (F + 1)) = (q : Int) - 1 := by rw [IntWalk.i64_in _ (by omega)]; omega
              have v2 : IntKind.i64.wrap ((q : Int) - 1 + 1) = (q : Int) := by rw [IntWalk.i64_in _ (by omega)]; omega
              have v3 : (q : Int) - 1 + 1 = (q : Int) := by omega
              have v4 : IntKind.i64.wrap (q : Int) = (q : Int) := IntWalk.i64_in _ (by omega)
              have i3 : (q : Int) ≤ (cb : Int) := by omega
              have n3 : q ≤ cb := by omega
              have HCH := Lib.hid (fun wx (h : Grew w wx) => achain_c wx (bytesOf b) B q cb (m.take q) (C_takeE (HCB.out wx h) hqk) (by rw [List.length_take, ← HK.out]; omega) n3 (by omega) (bytesOf_bytes _) (by rw [bytesOf_length, RB.out.sz]; omega) (fun e he => RB.out.good e (List.mem_of_mem_take he)))
              rw [str_bytes] at HCH
              obtain ⟨D, hD⟩ : ∃ D, D = digP a la l := ⟨_, rfl⟩
              obtain ⟨C2, hC2⟩ : ∃ C2, C2 = strOfNums (chainE (bytesOf b) (m.take q)) := ⟨_, rfl⟩
              rw [← hD] at HDG
              rw [← hC2] at HCH
              have HDE := Lib.hid hD
              have HCE := Lib.hid hC2
              have HQ := Lib.hid hq
              have HLF := Lib.hid hlf
              clear hD hC2 hq h1 h2 h3 hlf y1 u5 u6
              apply region_grew [Is _, Is _, Is _, Is _, Is _, Is _, Is _, Is _, Is _, Is _, Is _, Is _] [([(2, none)], none), ([(59, some 0)], none), ([(3, none)], none), ([(61, some 2)], none), ([(3, none)], none), ([(63, some 4)], none), ([(2, none)], none), ([(65, some 6)], none), ([(5, none)], none), ([(66, some 7), (67, some 8)], none), ([(68, some 9)], none), ([(64, some 5), (69, some 10)], none)] [(59, 0), (60, 1), (61, 2), (62, 3), (63, 4), (64, 5), (65, 6), (66, 7), (67, 8), (68, 9), (69, 10), (70, 11)] rfl (by kernel_rfl) (by kernel_rfl) (show Stable Grew _ from ⟨Is.stable _, Is.stable _, Is.stable _, Is.stable _, Is.stable _, Is.stable _, Is.stable _, Is.stable _, Is.stable _, Is.stable _, Is.stable _, Is.stable _, trivial⟩)
              · show OpsHold _ _ _ _ _ _ _ _ _
                refine ⟨fun a_ wx hR hD K hK => ?_, ?_⟩
                · have hG : Grew wr wx := (Grew.drew _).trans hR
                  simp [Deps, Dep, at_, Is] at hD
                  obtain ⟨e0, e1, e2⟩ := CB0.out wx (Grew.trans HGR.out hG)
                  go_simp
                  exact hK _ _ (Grew.refl _) rfl
                refine ⟨fun a_ wx hR hD K hK => ?_, ?_⟩
                · have hG : Grew wr wx := (Grew.drew _).trans hR
                  simp [Deps, Dep, at_, Is] at hD
                  go_simp
                  have hcn := HDG.out wx (Grew.trans HG0.out (Grew.trans HGR.out hG))
                  with_reducible refine hcn.mono ?_
                  clear hcn
                  rintro e wy ⟨v, rfl, hv, hg⟩
                  exact hK _ _ hg hv
                refine ⟨fun a_ wx hR hD K hK => ?_, ?_⟩
                · have hG : Grew wr wx := (Grew.drew _).trans hR
                  simp [Deps, Dep, at_, Is] at hD
                  go_simp
                  exact hK _ _ (Grew.refl _) rfl
                refine ⟨fun a_ wx hR hD K hK => ?_, ?_⟩
                · have hG : Grew wr wx := (Grew.drew _).trans hR
                  simp [Deps, Dep, at_, Is] at hD
                  obtain ⟨e0, e1, e2⟩ := CB1.out wx (Grew.trans HGR.out hG)
                  go_simp
                  exact hK _ _ (Grew.refl _) rfl
                refine ⟨fun a_ wx hR hD K hK => ?_, ?_⟩
                · have hG : Grew wr wx := (Grew.drew _).trans hR
                  simp [Deps, Dep, at_, Is] at hD
                  go_simp
                  exact hK _ _ (Grew.refl _) rfl
                refine ⟨fun a_ wx hR hD K hK => ?_, ?_⟩
                · have hG : Grew wr wx := (Grew.drew _).trans hR
                  simp [Deps, Dep, at_, Is] at hD
                  obtain ⟨e0, e1, e2⟩ := CB1.out wx (Grew.trans HGR.out hG)
                  go_simp
                  exact hK _ _ (Grew.refl _) rfl
                refine ⟨fun a_ wx hR hD K hK => ?_, ?_⟩
                · have hG : Grew wr wx := (Grew.drew _).trans hR
                  simp [Deps, Dep, at_, Is] at hD
                  go_simp
                  exact hK _ _ (Grew.refl _) rfl
                refine ⟨fun a_ wx hR hD K hK => ?_, ?_⟩
                · have hG : Grew wr wx := (Grew.drew _).trans hR
                  simp [Deps, Dep, at_, Is] at hD
                  obtain ⟨e0, e1, e2⟩ := CB0.out wx (Grew.trans HGR.out hG)
                  go_simp
                  exact hK _ _ (Grew.refl _) rfl
                refine ⟨fun a_ wx hR hD K hK => ?_, ?_⟩
                · have hG : Grew wr wx := (Grew.drew _).trans hR
                  simp [Deps, Dep, at_, Is] at hD
                  go_simp
                  exact hK _ _ (Grew.refl _) rfl
                refine ⟨fun a_ wx hR hD K hK => ?_, ?_⟩
                · have hG : Grew wr wx := (Grew.drew _).trans hR
                  simp [Deps, Dep, at_, Is] at hD
                  obtain ⟨hd0, hd1⟩ := hD
                  go_simp
                  exact hK _ _ (Grew.refl _) rfl
                refine ⟨fun a_ wx hR hD K hK => ?_, ?_⟩
                · have hG : Grew wr wx := (Grew.drew _).trans hR
                  simp [Deps, Dep, at_, Is] at hD
                  go_simp
                  exact hK _ _ (Grew.refl _) rfl
                refine ⟨fun a_ wx hR hD K hK => ?_, ?_⟩
                · have hG : Grew wr wx := (Grew.drew _).trans hR
                  simp [Deps, Dep, at_, Is] at hD
                  obtain ⟨hd0, hd1⟩ := hD
                  go_simp
                  exact hK _ _ (Grew.refl _) rfl
                trivial
              · show EndHold _ _ _ _ _ _ _
                refine end_all (xs := [_, _, _, _, _, _, _, _, _, _, _, _]) ⟨rfl, rfl, rfl, rfl, rfl, rfl, rfl, rfl, rfl, rfl, rfl, rfl, trivial⟩ ?_
                rintro w9 hR1 -
                refine ⟨?_⟩
                have hG_w9 : Grew wr w9 := (Grew.drew _).trans hR1
                clear hR1
                simp only [Act.put, List.setIfInBounds_toArray, List.set_cons_succ, List.set_cons_zero, dropN, putEach]
                go_wp2_with fail
                refine (HCH.out w9 (Grew.trans HG0.out (Grew.trans HGR.out hG_w9))).mono ?_
                rintro e w10 ⟨_, rfl, rfl, hg10⟩
                go_wp2_with fail
                go_ret
                have hfin : (D.toList == C2.toList) = R := by
                  have h2 := HHF.out
                  by_cases hDC : D = C2
                  · rw [(tl_beq D C2).2 hDC, HR.out, folP_true]
                    refine ⟨HMAE.out.symm, HMBE.out.symm, HAB.out, fun j e hj hf => ?_, fun h => ?_⟩
                    · rw [← HK.out, ← h2] at hf ⊢
                      exact HAG.out j e (by rw [HN.out]; exact (List.getElem?_eq_some_iff.1 hj).1) hj hf
                    · rw [← HK.out, ← h2, show la - (F + 1) + 1 = (q : Int) from by have := HQ.out; omega, Int.toNat_natCast, ← HDE.out, ← HCE.out]
                      exact hDC
                  · have hno : ¬ FolP a la l b lb m := fun h => by
                      have h5 := h.2.2.2.2 (by rw [← HK.out, ← h2]; have := HLF.out; omega)
                      rw [← HK.out, ← h2, show la - (F + 1) + 1 = (q : Int) from by have := HQ.out; omega, Int.toNat_natCast, ← HDE.out, ← HCE.out] at h5
                      exact hDC h5
                    rw [HR.out, folP_false hno]
                    cases hx : (D.toList == C2.toList) with
                    | false => rfl
                    | true => exact absurd ((tl_beq D C2).1 hx) hDC
                exact ⟨_, rfl, by show Value.bool _ = Value.bool R; rw [hfin], Grew.trans HG0.out (Grew.trans HGR.out (Grew.trans hG_w9 hg10))⟩
      · have x1 : decide (lb < la) = true := decide_eq_true (by omega)
        go_wp2_with fail
        go_ret
        exact ⟨_, rfl, by rw [HR.out, folP_false (fun h => by have := h.2.2.1; omega)]; rfl, Grew.trans HG0.out hg2'⟩
end Go.Proofs.Ytmifoihfpjomaaa.F

-- AudR
namespace Go.Proofs.Ytmifoihfpjomaaa.F
open Go Go.RowKit Go.Proofs.YtmifoihfpjomaaaW.PrintWords Go.Proofs.YtmifoihfpjomaaaW.PrintLast Go.Proofs.YtmifoihfpjomaaaW.PrintMore Go.Proofs.YtmifoihfpjomaaaM Go.Proofs.YtmifoihfpjomaaaR
attribute [local go_sem] max2_int min2_int max_two min_two
set_option linter.unusedSimpArgs false
set_option linter.unusedVariables false
set_option maxRecDepth 100000
set_option maxHeartbeats 8000000 in
theorem rfollows_c (a : ByteArray) (la : Int) (A : Option Addr) (ca : Nat) (l : List En) (b : ByteArray) (lb : Int) (B : Option Addr) (cb : Nat) (m : List En) (w : World)
    (hA : Kd.C k36 w A l.length l) (hca : l.length ≤ ca) (hB : Kd.C k36 w B m.length m) (hcb : m.length ≤ cb) :
    Calls Try.prog 26 #[.agg #[.string a, .int .i64 la, .slice A l.length ca], .agg #[.string b, .int .i64 lb, .slice B m.length cb]] w (Tells w (Is (.bool (folP a la l b lb m)))) := by
  have HMA := Lib.hid (fun wx (h : Grew w wx) => rmay_c a la A ca l wx (Kd.C_below hA h) hca)
  have HMB := Lib.hid (fun wx (h : Grew w wx) => rmay_c b lb B cb m wx (Kd.C_below hB h) hcb)
  have HCA := Lib.hid (fun wx (h : Grew w wx) => Kd.C_below hA h)
  have HCB := Lib.hid (fun wx (h : Grew w wx) => Kd.C_below hB h)
  obtain ⟨n, hn⟩ : ∃ n, n = l.length := ⟨_, rfl⟩
  obtain ⟨k, hk⟩ : ∃ k, k = m.length := ⟨_, rfl⟩
  have HN := Lib.hid hn
  have HK := Lib.hid hk
  rw [← hn] at HMA HCA hca ⊢
  rw [← hk] at HMB HCB hcb ⊢
  obtain ⟨R, hR⟩ : ∃ R, R = folP a la l b lb m := ⟨_, rfl⟩
  rw [← hR]
  have HR := Lib.hid hR
  obtain ⟨W0, hW0⟩ : ∃ W0, W0 = (w.alloc (.cells #[.string a, .int .i64 la, .slice A n ca] 24)).alloc (.cells #[.string b, .int .i64 lb, .slice B k cb] 24) := ⟨_, rfl⟩
  obtain ⟨H, hH⟩ : ∃ H, H = w.heap.size := ⟨_, rfl⟩
  have hb0 : Blk W0 H 24 [.string a, .int .i64 la, .slice A n ca] := by rw [hW0, hH]; exact (Blk.new w _ _).grew (Grew.alloc _ _)
  have hb1 : Blk W0 (H + 1) 24 [.string b, .int .i64 lb, .slice B k cb] := by
    rw [hW0, hH]
    have := Blk.new (w.alloc (.cells #[.string a, .int .i64 la, .slice A n ca] 24)) 24 [.string b, .int .i64 lb, .slice B k cb]
    simpa using this
  have hg0 : Grew w W0 := by rw [hW0]; exact (Grew.alloc _ _).trans (Grew.alloc _ _)
  have CB0 := Lib.hid (fun wx (h : Grew W0 wx) => And.intro ((hb0.grew h).at_ 0) (And.intro ((hb0.grew h).at_ 1) ((hb0.grew h).at_ 2)))
  have CB1 := Lib.hid (fun wx (h : Grew W0 wx) => And.intro ((hb1.grew h).at_ 0) (And.intro ((hb1.grew h).at_ 1) ((hb1.grew h).at_ 2)))
  simp only [List.getElem?_cons_zero, List.getElem?_cons_succ] at CB0 CB1
  have HG0 := Lib.hid hg0
  have HWE := Lib.hid hW0
  have HHE := Lib.hid hH
  clear hA hB hn hk hR hb0 hb1 hg0 hW0 hH
  go_enter Try.func26, Try.ntmps26
  go_wp2_with fail
  rw [← HWE.out]
  rw [← HHE.out]
  refine (HMA.out W0 HG0.out).mono ?_
  rintro e w1 ⟨_, rfl, rfl, hg1⟩
  obtain ⟨c0, c1, c2⟩ := CB0.out w1 hg1
  obtain ⟨d0, d1, d2⟩ := CB1.out w1 hg1
  obtain ⟨ma, hma⟩ : ∃ x, x = mayP a la l := ⟨_, rfl⟩
  rw [← hma]
  have HMAE := Lib.hid hma
  clear hma
  cases ma with
  | false =>
    go_wp2_with fail
    go_ret
    exact ⟨_, rfl, by rw [HR.out, folP_false (fun h => by have := h.1; rw [← HMAE.out] at this; cases this)]; rfl, Grew.trans HG0.out hg1⟩
  | true =>
    go_wp2_with fail
    refine (HMB.out w1 (Grew.trans HG0.out hg1)).mono ?_
    rintro e w2 ⟨_, rfl, rfl, hg2⟩
    have hg2' := Grew.trans hg1 hg2
    clear c0 c1 c2 d0 d1 d2
    obtain ⟨c0, c1, c2⟩ := CB0.out w2 hg2'
    obtain ⟨d0, d1, d2⟩ := CB1.out w2 hg2'
    obtain ⟨mb, hmb⟩ : ∃ x, x = mayP b lb m := ⟨_, rfl⟩
    rw [← hmb]
    have HMBE := Lib.hid hmb
    clear hmb
    cases mb with
    | false =>
      go_wp2_with fail
      go_ret
      exact ⟨_, rfl, by rw [HR.out, folP_false (fun h => by have := h.2.1; rw [← HMBE.out] at this; cases this)]; rfl, Grew.trans HG0.out hg2'⟩
    | true =>
      by_cases hab : la ≤ lb
      · have x1 : decide (lb < la) = false := decide_eq_false (by omega)
        have ra := mayR HMAE.out.symm
        have rb := mayR HMBE.out.symm
        have a0 := ra.l0
        have a1 := ra.l1
        have b0 := rb.l0
        have b1 := rb.l1
        have an := ra.len
        have bn := rb.len
        rw [← HN.out] at an
        rw [← HK.out] at bn
        obtain ⟨F, hF⟩ : ∃ F, F = lb - (k : Int) := ⟨_, rfl⟩
        have u1 : IntKind.i64.wrap (lb - (k : Int)) = F := by rw [IntWalk.i64_in _ (by omega)]; omega
        have RA := Lib.hid ra
        have RB := Lib.hid rb
        clear ra rb
        have HEQ := Lib.hid (fun (x y : En) (w' : World) => show (Op.equalIn 10000 36 (.agg #[.int .i64 x.f0, .int .i64 x.f1, .int .i64 x.f2, .string x.f3, .int .i64 x.f4]) (.agg #[.int .i64 y.f0, .int .i64 y.f1, .int .i64 y.f2, .string y.f3, .int .i64 y.f4])).run Try.prog w' = .ok _ w' from eqEnA 9998 w' x.f0 x.f1 x.f2 x.f3 x.f4 y.f0 y.f1 y.f2 y.f3 y.f4)
        have HHF := Lib.hid hF
        have HBN := Lib.hid bn
        have HAN := Lib.hid an
        have HAB := Lib.hid hab
        have HA0 := Lib.hid (And.intro a0 (And.intro a1 (And.intro b0 b1)))
        have n8 : n ≤ 8 := by omega
        have k8 : k ≤ 8 := by omega
        clear hF an bn hab a0 a1 b0 b1
        go_wp2_with fail
        clear c0 c1 c2 d0 d1 d2
        go_loopw [5] (fun iv wr => ∃ i : Nat, iv = .int .i64 (i : Int) ∧ i ≤ n ∧ (∀ (j : Nat) (e : En), j < i → l[j]? = some e → F + 1 ≤ e.f0 → m[(e.f0 - (F + 1)).toNat]? = some e) ∧ Grew W0 wr) (fun iv _ => n - (intOf iv).toNat)
        case atStart => exact ⟨0, rfl, Nat.zero_le _, fun j e hj => absurd hj (Nat.not_lt_zero _), hg2'⟩
        case round =>
          obtain ⟨i, rfl, hi, hag, hgr⟩ := hrel
          have HGR := Lib.hid hgr
          have HAG := Lib.hid hag
          clear hg2' hg2 hg1 hgr hag
          obtain ⟨c0, c1, c2⟩ := CB0.out wr HGR.out
          by_cases hlt : i < n
          · have d1 : decide ((i : Int) < (n : Int)) = true := decide_eq_true (by omega)
            have d2 : decide (i < n) = true := decide_eq_true hlt
            have i1 : (i : Int) < (n : Int) := by omega
            obtain ⟨e, he⟩ : ∃ e, e = rd_T36 l (i : Int) := ⟨_, rfl⟩
            have hei : l[i]? = some e := by rw [he]; exact rd_getE (by rw [← HN.out]; exact hlt)
            have hes := mayL_at RA.out.seq hei
            rw [← HN.out] at hes
            have HEI := Lib.hid hei
            have HES := Lib.hid hes
            have HE0 := Lib.hid he
            clear hei hes he
            go_wp2_with fail
            clear c0 c1 c2 d1 d2
            go_loopw [6] (fun iv wq => ∃ j : Nat, iv = .int .i64 (j : Int) ∧ j ≤ k ∧ (∀ (j' : Nat) (y : En), j' < j → m[j']? = some y → y.f0 = e.f0 → y = e) ∧ Grew W0 wq) (fun iv _ => k - (intOf iv).toNat)
            case atStart => exact ⟨0, rfl, Nat.zero_le _, fun j e hj => absurd hj (Nat.not_lt_zero _), HGR.out⟩
            case round =>
              obtain ⟨j, rfl, hj, hag2, hgr2⟩ := hrel
              have HG2 := Lib.hid hgr2
              have HA2 := Lib.hid hag2
              clear hgr2 hag2
              rename World => wq
              obtain ⟨d0, d1, d2⟩ := CB1.out wq HG2.out
              by_cases hjk : j < k
              · have d3 : decide ((j : Int) < (k : Int)) = true := decide_eq_true (by omega)
                have d4 : decide (j < k) = true := decide_eq_true hjk
                have i2 : (j : Int) < (k : Int) := by omega
                obtain ⟨ad1, rfl, a0, a1, a2, a3, a4⟩ := at_T36 (HCA.out wq (Grew.trans HG0.out HG2.out)) (i : Int) (by omega) i1
                obtain ⟨ad2, rfl, b0, b1, b2, b3, b4⟩ := at_T36 (HCB.out wq (Grew.trans HG0.out HG2.out)) (j : Int) (by omega) i2
                obtain ⟨y, hy⟩ : ∃ y, y = rd_T36 m (j : Int) := ⟨_, rfl⟩
                have hyj : m[j]? = some y := by rw [hy]; exact rd_getE (by rw [← HK.out]; exact hjk)
                rw [Int.toNat_natCast, ← hy] at b0 b1 b2 b3 b4
                rw [Int.toNat_natCast, ← HE0.out] at a0 a1 a2 a3 a4
                have HA := Lib.hid (fun wx (h : Grew wq wx) => And.intro (pw_cell_below h a0) (And.intro (pw_cell_below h a1) (And.intro (pw_cell_below h a2) (And.intro (pw_cell_below h a3) (pw_cell_below h a4)))))
                have HBC := Lib.hid (fun wx (h : Grew wq wx) => And.intro (pw_cell_below h b0) (And.intro (pw_cell_below h b1) (And.intro (pw_cell_below h b2) (And.intro (pw_cell_below h b3) (pw_cell_below h b4)))))
                have heq := HEQ.out e y
                have hiff := eqE_iff e y
                obtain ⟨E, hE⟩ : ∃ E, E = (e.f0 == y.f0 && (e.f1 == y.f1 && (e.f2 == y.f2 && (e.f3.toList == y.f3.toList && (e.f4 == y.f4))))) := ⟨_, rfl⟩
                rw [← hE] at heq hiff
                have HEE := Lib.hid heq
                have HIF := Lib.hid hiff
                have HYJ := Lib.hid hyj
                clear hy hyj b0 b1 b2 b3 b4 a0 a1 a2 a3 a4 heq hiff hE
                go_wp2_with fail
                clear d0 d1 d2 d3 d4
                by_cases hf : e.f0 = y.f0
                · have y1 : (e.f0 == y.f0) = true := by simp [hf]
                  have y2 : decide (e.f0 = y.f0) = true := decide_eq_true hf
                  have HF' := Lib.hid hf
                  clear hf
                  apply region_grew [Is _, Is _, Is _, Is _, Is _, Is _, Is _, Is _, Is _, Is _, Is _, Is _, Is _, Is _, Is _, Is _, Is _, Is _, Is _, Is _, Is _, Is _, Is _, Is _] [([(2, none)], none), ([(37, some 0)], none), ([(5, none)], none), ([(38, some 1), (39, some 2)], none), ([(40, some 3)], none), ([(41, some 4)], none), ([(3, none)], none), ([(43, some 6)], none), ([(6, none)], none), ([(44, some 7), (45, some 8)], none), ([(46, some 9)], none), ([(47, some 10)], none), ([(42, some 5), (48, some 11)], none), ([(49, some 12)], none), ([(2, none), (50, some 13)], some (50, true)), ([(51, some 14), (50, some 13)], some (50, true)), ([(5, none), (50, some 13)], some (50, true)), ([(52, some 15), (53, some 16), (50, some 13)], some (50, true)), ([(54, some 17), (50, some 13)], some (50, true)), ([(3, none), (50, some 13)], some (50, true)), ([(56, some 19), (50, some 13)], some (50, true)), ([(6, none), (50, some 13)], some (50, true)), ([(57, some 20), (58, some 21), (50, some 13)], some (50, true)), ([(59, some 22), (50, some 13)], some (50, true))] [(37, 0), (38, 1), (39, 2), (40, 3), (41, 4), (42, 5), (43, 6), (44, 7), (45, 8), (46, 9), (47, 10), (48, 11), (49, 12), (50, 13), (51, 14), (52, 15), (53, 16), (54, 17), (55, 18), (56, 19), (57, 20), (58, 21), (59, 22), (60, 23)] rfl (by kernel_rfl) (by kernel_rfl) (show Stable Grew _ from ⟨Is.stable _, Is.stable _, Is.stable _, Is.stable _, Is.stable _, Is.stable _, Is.stable _, Is.stable _, Is.stable _, Is.stable _, Is.stable _, Is.stable _, Is.stable _, Is.stable _, Is.stable _, Is.stable _, Is.stable _, Is.stable _, Is.stable _, Is.stable _, Is.stable _, Is.stable _, Is.stable _, Is.stable _, trivial⟩)
                  · show OpsHold _ _ _ _ _ _ _ _ _
                    refine ⟨fun a_ wx hR hD K hK => ?_, ?_⟩
                    · have hG : Grew wq wx := (Grew.drew _).trans hR
                      simp [Deps, Dep, at_, Is] at hD
                      go_simp
                      exact hK _ _ (Grew.refl _) rfl
                    refine ⟨fun a_ wx hR hD K hK => ?_, ?_⟩
                    · have hG : Grew wq wx := (Grew.drew _).trans hR
                      simp [Deps, Dep, at_, Is] at hD
                      obtain ⟨e0, e1, e2⟩ := CB0.out wx (Grew.trans HG2.out hG)
                      go_simp
                      exact hK _ _ (Grew.refl _) rfl
                    refine ⟨fun a_ wx hR hD K hK => ?_, ?_⟩
                    · have hG : Grew wq wx := (Grew.drew _).trans hR
                      simp [Deps, Dep, at_, Is] at hD
                      go_simp
                      exact hK _ _ (Grew.refl _) rfl
                    refine ⟨fun a_ wx hR hD K hK => ?_, ?_⟩
                    · have hG : Grew wq wx := (Grew.drew _).trans hR
                      simp [Deps, Dep, at_, Is] at hD
                      obtain ⟨hd0, hd1⟩ := hD
                      go_simp
                      exact hK _ _ (Grew.refl _) rfl
                    refine ⟨fun a_ wx hR hD K hK => ?_, ?_⟩
                    · have hG : Grew wq wx := (Grew.drew _).trans hR
                      simp [Deps, Dep, at_, Is] at hD
                      go_simp
                      exact hK _ _ (Grew.refl _) rfl
                    refine ⟨fun a_ wx hR hD K hK => ?_, ?_⟩
                    · have hG : Grew wq wx := (Grew.drew _).trans hR
                      simp [Deps, Dep, at_, Is] at hD
                      obtain ⟨e0, e1, e2, e3, e4⟩ := HA.out wx hG
                      go_simp
                      exact hK _ _ (Grew.refl _) rfl
                    refine ⟨fun a_ wx hR hD K hK => ?_, ?_⟩
                    · have hG : Grew wq wx := (Grew.drew _).trans hR
                      simp [Deps, Dep, at_, Is] at hD
                      go_simp
                      exact hK _ _ (Grew.refl _) rfl
                    refine ⟨fun a_ wx hR hD K hK => ?_, ?_⟩
                    · have hG : Grew wq wx := (Grew.drew _).trans hR
                      simp [Deps, Dep, at_, Is] at hD
                      obtain ⟨e0, e1, e2⟩ := CB1.out wx (Grew.trans HG2.out hG)
                      go_simp
                      exact hK _ _ (Grew.refl _) rfl
                    refine ⟨fun a_ wx hR hD K hK => ?_, ?_⟩
                    · have hG : Grew wq wx := (Grew.drew _).trans hR
                      simp [Deps, Dep, at_, Is] at hD
                      go_simp
                      exact hK _ _ (Grew.refl _) rfl
                    refine ⟨fun a_ wx hR hD K hK => ?_, ?_⟩
                    · have hG : Grew wq wx := (Grew.drew _).trans hR
                      simp [Deps, Dep, at_, Is] at hD
                      obtain ⟨hd0, hd1⟩ := hD
                      go_simp
                      exact hK _ _ (Grew.refl _) rfl
                    refine ⟨fun a_ wx hR hD K hK => ?_, ?_⟩
                    · have hG : Grew wq wx := (Grew.drew _).trans hR
                      simp [Deps, Dep, at_, Is] at hD
                      go_simp
                      exact hK _ _ (Grew.refl _) rfl
                    refine ⟨fun a_ wx hR hD K hK => ?_, ?_⟩
                    · have hG : Grew wq wx := (Grew.drew _).trans hR
                      simp [Deps, Dep, at_, Is] at hD
                      obtain ⟨e0, e1, e2, e3, e4⟩ := HBC.out wx hG
                      go_simp
                      exact hK _ _ (Grew.refl _) rfl
                    refine ⟨fun a_ wx hR hD K hK => ?_, ?_⟩
                    · have hG : Grew wq wx := (Grew.drew _).trans hR
                      simp [Deps, Dep, at_, Is] at hD
                      obtain ⟨hd0, hd1⟩ := hD
                      go_simp
                      exact hK _ _ (Grew.refl _) rfl
                    refine ⟨fun a_ wx hR hD K hK => ?_, ?_⟩
                    · have hG : Grew wq wx := (Grew.drew _).trans hR
                      simp [Deps, Dep, at_, Is] at hD
                      go_simp
                      exact hK _ _ (Grew.refl _) rfl
                    refine ⟨fun a_ wx hR hD => ⟨fun hgd K hK => ?_, fun hgd => ?_⟩, ?_⟩
                    · have hG : Grew wq wx := (Grew.drew _).trans hR
                      clear hgd
                      simp [Deps, Dep, at_, Is] at hD
                      obtain ⟨hd0, hd1⟩ := hD
                      go_simp
                      exact hK _ _ (Grew.refl _) rfl
                    · have hG : Grew wq wx := (Grew.drew _).trans hR
                      exfalso
                      simp [Deps, Dep, at_, Is] at hD
                      simp_all
                    refine ⟨fun a_ wx hR hD => ⟨fun hgd K hK => ?_, fun hgd => ?_⟩, ?_⟩
                    · have hG : Grew wq wx := (Grew.drew _).trans hR
                      clear hgd
                      simp [Deps, Dep, at_, Is] at hD
                      obtain ⟨hd0, hd1⟩ := hD
                      obtain ⟨e0, e1, e2⟩ := CB0.out wx (Grew.trans HG2.out hG)
                      go_simp
                      exact hK _ _ (Grew.refl _) rfl
                    · have hG : Grew wq wx := (Grew.drew _).trans hR
                      exfalso
                      simp [Deps, Dep, at_, Is] at hD
                      simp_all
                    refine ⟨fun a_ wx hR hD => ⟨fun hgd K hK => ?_, fun hgd => ?_⟩, ?_⟩
                    · have hG : Grew wq wx := (Grew.drew _).trans hR
                      clear hgd
                      simp [Deps, Dep, at_, Is] at hD
                      obtain ⟨hd0, hd1⟩ := hD
                      go_simp
                      exact hK _ _ (Grew.refl _) rfl
                    · have hG : Grew wq wx := (Grew.drew _).trans hR
                      exfalso
                      simp [Deps, Dep, at_, Is] at hD
                      simp_all
                    refine ⟨fun a_ wx hR hD => ⟨fun hgd K hK => ?_, fun hgd => ?_⟩, ?_⟩
                    · have hG : Grew wq wx := (Grew.drew _).trans hR
                      clear hgd
                      simp [Deps, Dep, at_, Is] at hD
                      obtain ⟨hd0, hd1, hd2⟩ := hD
                      go_simp
                      exact hK _ _ (Grew.refl _) rfl
                    · have hG : Grew wq wx := (Grew.drew _).trans hR
                      exfalso
                      simp [Deps, Dep, at_, Is] at hD
                      simp_all
                    refine ⟨fun a_ wx hR hD => ⟨fun hgd K hK => ?_, fun hgd => ?_⟩, ?_⟩
                    · have hG : Grew wq wx := (Grew.drew _).trans hR
                      clear hgd
                      simp [Deps, Dep, at_, Is] at hD
                      obtain ⟨hd0, hd1⟩ := hD
                      obtain ⟨e0, e1, e2, e3, e4⟩ := HA.out wx hG
                      go_simp
                      exact hK _ _ (Grew.refl _) rfl
                    · have hG : Grew wq wx := (Grew.drew _).trans hR
                      exfalso
                      simp [Deps, Dep, at_, Is] at hD
                      simp_all
                    refine ⟨fun a_ wx hR hD => ⟨fun hgd K hK => ?_, fun hgd => ?_⟩, ?_⟩
                    · have hG : Grew wq wx := (Grew.drew _).trans hR
                      clear hgd
                      simp [Deps, Dep, at_, Is] at hD
                      obtain ⟨hd0, hd1⟩ := hD
                      go_simp
                      exact hK _ _ (Grew.refl _) rfl
                    · have hG : Grew wq wx := (Grew.drew _).trans hR
                      exfalso
                      simp [Deps, Dep, at_, Is] at hD
                      simp_all
                    refine ⟨fun a_ wx hR hD => ⟨fun hgd K hK => ?_, fun hgd => ?_⟩, ?_⟩
                    · have hG : Grew wq wx := (Grew.drew _).trans hR
                      clear hgd
                      simp [Deps, Dep, at_, Is] at hD
                      obtain ⟨hd0, hd1⟩ := hD
                      obtain ⟨e0, e1, e2⟩ := CB1.out wx (Grew.trans HG2.out hG)
                      go_simp
                      exact hK _ _ (Grew.refl _) rfl
                    · have hG : Grew wq wx := (Grew.drew _).trans hR
                      exfalso
                      simp [Deps, Dep, at_, Is] at hD
                      simp_all
                    refine ⟨fun a_ wx hR hD => ⟨fun hgd K hK => ?_, fun hgd => ?_⟩, ?_⟩
                    · have hG : Grew wq wx := (Grew.drew _).trans hR
                      clear hgd
                      simp [Deps, Dep, at_, Is] at hD
                      obtain ⟨hd0, hd1⟩ := hD
                      go_simp
                      exact hK _ _ (Grew.refl _) rfl
                    · have hG : Grew wq wx := (Grew.drew _).trans hR
                      exfalso
                      simp [Deps, Dep, at_, Is] at hD
                      simp_all
                    refine ⟨fun a_ wx hR hD => ⟨fun hgd K hK => ?_, fun hgd => ?_⟩, ?_⟩
                    · have hG : Grew wq wx := (Grew.drew _).trans hR
                      clear hgd
                      simp [Deps, Dep, at_, Is] at hD
                      obtain ⟨hd0, hd1, hd2⟩ := hD
                      go_simp
                      exact hK _ _ (Grew.refl _) rfl
                    · have hG : Grew wq wx := (Grew.drew _).trans hR
                      exfalso
                      simp [Deps, Dep, at_, Is] at hD
                      simp_all
                    refine ⟨fun a_ wx hR hD => ⟨fun hgd K hK => ?_, fun hgd => ?_⟩, ?_⟩
                    · have hG : Grew wq wx := (Grew.drew _).trans hR
                      clear hgd
                      simp [Deps, Dep, at_, Is] at hD
                      obtain ⟨hd0, hd1⟩ := hD
                      obtain ⟨e0, e1, e2, e3, e4⟩ := HBC.out wx hG
                      go_simp
                      exact hK _ _ (Grew.refl _) rfl
                    · have hG : Grew wq wx := (Grew.drew _).trans hR
                      exfalso
                      simp [Deps, Dep, at_, Is] at hD
                      simp_all
                    trivial
                  · show EndHold _ _ _ _ _ _ _
                    refine end_all (xs := [_, _, _, _, _, _, _, _, _, _, _, _, _, _, _, _, _, _, _, _, _, _, _, _]) ⟨rfl, rfl, rfl, rfl, rfl, rfl, rfl, rfl, rfl, rfl, rfl, rfl, rfl, rfl, rfl, rfl, rfl, rfl, rfl, rfl, rfl, rfl, rfl, rfl, trivial⟩ ?_
                    rintro w8 hR1 -
                    refine ⟨?_⟩
                    have hG_w8 : Grew wq w8 := (Grew.drew _).trans hR1
                    clear hR1
                    simp only [Act.put, List.setIfInBounds_toArray, List.set_cons_succ, List.set_cons_zero, dropN, putEach]
                    cases E with
                    | true =>
                      have e_ := HEE.out
                      go_wp2_with fail
                      clear e_
                      go_roundw
                      case rel => exact ⟨j + 1, by go_num, by omega, fun j' y' hj' hy' hf' => by
                        rcases Nat.lt_or_ge j' j with h | h
                        · exact HA2.out j' y' h hy' hf'
                        · obtain rfl : j' = j := by omega
                          rw [HYJ.out] at hy'
                          obtain rfl := Option.some.inj hy'
                          exact (HIF.out.1 rfl).symm, Grew.trans HG2.out hG_w8⟩
                      case measure => simp [intOf]; omega
                    | false =>
                      have hno : ¬ FolP a la l b lb m := fun h => by
                        have hyf := mayL_at RB.out.seq HYJ.out
                        have h2 := HHF.out
                        have h3 := HF'.out
                        rw [← HK.out] at hyf
                        have h4 := h.2.2.2.1 i e HEI.out (by rw [← HK.out]; omega)
                        rw [← HK.out, show e.f0 - (lb - (k : Int) + 1) = (j : Int) from by omega, Int.toNat_natCast, HYJ.out] at h4
                        have := HIF.out.2 (Option.some.inj h4).symm
                        cases this
                      have HR0 := Lib.hid (HR.out.trans (folP_false hno))
                      clear hno
                      have e_ := HEE.out
                      go_wp2_with fail
                      go_ret
                      exact ⟨_, rfl, by rw [HR0.out]; rfl, Grew.trans HG0.out (Grew.trans HG2.out hG_w8)⟩
                · have y1 : (e.f0 == y.f0) = false := by simpa using hf
                  have y2 : decide (e.f0 = y.f0) = false := decide_eq_false hf
                  have HF' := Lib.hid hf
                  clear hf
                  apply region_grew [Is _, Is _, Is _, Is _, Is _, Is _, Is _, Is _, Is _, Is _, Is _, Is _, Is _, Is _, Is undef, Is undef, Is undef, Is undef, Is undef, Is undef, Is undef, Is undef, Is undef, Is undef] [([(2, none)], none), ([(37, some 0)], none), ([(5, none)], none), ([(38, some 1), (39, some 2)], none), ([(40, some 3)], none), ([(41, some 4)], none), ([(3, none)], none), ([(43, some 6)], none), ([(6, none)], none), ([(44, some 7), (45, some 8)], none), ([(46, some 9)], none), ([(47, some 10)], none), ([(42, some 5), (48, some 11)], none), ([(49, some 12)], none), ([(2, none), (50, some 13)], some (50, true)), ([(51, some 14), (50, some 13)], some (50, true)), ([(5, none), (50, some 13)], some (50, true)), ([(52, some 15), (53, some 16), (50, some 13)], some (50, true)), ([(54, some 17), (50, some 13)], some (50, true)), ([(3, none), (50, some 13)], some (50, true)), ([(56, some 19), (50, some 13)], some (50, true)), ([(6, none), (50, some 13)], some (50, true)), ([(57, some 20), (58, some 21), (50, some 13)], some (50, true)), ([(59, some 22), (50, some 13)], some (50, true))] [(37, 0), (38, 1), (39, 2), (40, 3), (41, 4), (42, 5), (43, 6), (44, 7), (45, 8), (46, 9), (47, 10), (48, 11), (49, 12), (50, 13), (51, 14), (52, 15), (53, 16), (54, 17), (55, 18), (56, 19), (57, 20), (58, 21), (59, 22), (60, 23)] rfl (by kernel_rfl) (by kernel_rfl) (show Stable Grew _ from ⟨Is.stable _, Is.stable _, Is.stable _, Is.stable _, Is.stable _, Is.stable _, Is.stable _, Is.stable _, Is.stable _, Is.stable _, Is.stable _, Is.stable _, Is.stable _, Is.stable _, Is.stable _, Is.stable _, Is.stable _, Is.stable _, Is.stable _, Is.stable _, Is.stable _, Is.stable _, Is.stable _, Is.stable _, trivial⟩)
                  · show OpsHold _ _ _ _ _ _ _ _ _
                    refine ⟨fun a_ wx hR hD K hK => ?_, ?_⟩
                    · have hG : Grew wq wx := (Grew.drew _).trans hR
                      simp [Deps, Dep, at_, Is] at hD
                      go_simp
                      exact hK _ _ (Grew.refl _) rfl
                    refine ⟨fun a_ wx hR hD K hK => ?_, ?_⟩
                    · have hG : Grew wq wx := (Grew.drew _).trans hR
                      simp [Deps, Dep, at_, Is] at hD
                      obtain ⟨e0, e1, e2⟩ := CB0.out wx (Grew.trans HG2.out hG)
                      go_simp
                      exact hK _ _ (Grew.refl _) rfl
                    refine ⟨fun a_ wx hR hD K hK => ?_, ?_⟩
                    · have hG : Grew wq wx := (Grew.drew _).trans hR
                      simp [Deps, Dep, at_, Is] at hD
                      go_simp
                      exact hK _ _ (Grew.refl _) rfl
                    refine ⟨fun a_ wx hR hD K hK => ?_, ?_⟩
                    · have hG : Grew wq wx := (Grew.drew _).trans hR
                      simp [Deps, Dep, at_, Is] at hD
                      obtain ⟨hd0, hd1⟩ := hD
                      go_simp
                      exact hK _ _ (Grew.refl _) rfl
                    refine ⟨fun a_ wx hR hD K hK => ?_, ?_⟩
                    · have hG : Grew wq wx := (Grew.drew _).trans hR
                      simp [Deps, Dep, at_, Is] at hD
                      go_simp
                      exact hK _ _ (Grew.refl _) rfl
                    refine ⟨fun a_ wx hR hD K hK => ?_, ?_⟩
                    · have hG : Grew wq wx := (Grew.drew _).trans hR
                      simp [Deps, Dep, at_, Is] at hD
                      obtain ⟨e0, e1, e2, e3, e4⟩ := HA.out wx hG
                      go_simp
                      exact hK _ _ (Grew.refl _) rfl
                    refine ⟨fun a_ wx hR hD K hK => ?_, ?_⟩
                    · have hG : Grew wq wx := (Grew.drew _).trans hR
                      simp [Deps, Dep, at_, Is] at hD
                      go_simp
                      exact hK _ _ (Grew.refl _) rfl
                    refine ⟨fun a_ wx hR hD K hK => ?_, ?_⟩
                    · have hG : Grew wq wx := (Grew.drew _).trans hR
                      simp [Deps, Dep, at_, Is] at hD
                      obtain ⟨e0, e1, e2⟩ := CB1.out wx (Grew.trans HG2.out hG)
                      go_simp
                      exact hK _ _ (Grew.refl _) rfl
                    refine ⟨fun a_ wx hR hD K hK => ?_, ?_⟩
                    · have hG : Grew wq wx := (Grew.drew _).trans hR
                      simp [Deps, Dep, at_, Is] at hD
                      go_simp
                      exact hK _ _ (Grew.refl _) rfl
                    refine ⟨fun a_ wx hR hD K hK => ?_, ?_⟩
                    · have hG : Grew wq wx := (Grew.drew _).trans hR
                      simp [Deps, Dep, at_, Is] at hD
                      obtain ⟨hd0, hd1⟩ := hD
                      go_simp
                      exact hK _ _ (Grew.refl _) rfl
                    refine ⟨fun a_ wx hR hD K hK => ?_, ?_⟩
                    · have hG : Grew wq wx := (Grew.drew _).trans hR
                      simp [Deps, Dep, at_, Is] at hD
                      go_simp
                      exact hK _ _ (Grew.refl _) rfl
                    refine ⟨fun a_ wx hR hD K hK => ?_, ?_⟩
                    · have hG : Grew wq wx := (Grew.drew _).trans hR
                      simp [Deps, Dep, at_, Is] at hD
                      obtain ⟨e0, e1, e2, e3, e4⟩ := HBC.out wx hG
                      go_simp
                      exact hK _ _ (Grew.refl _) rfl
                    refine ⟨fun a_ wx hR hD K hK => ?_, ?_⟩
                    · have hG : Grew wq wx := (Grew.drew _).trans hR
                      simp [Deps, Dep, at_, Is] at hD
                      obtain ⟨hd0, hd1⟩ := hD
                      go_simp
                      exact hK _ _ (Grew.refl _) rfl
                    refine ⟨fun a_ wx hR hD K hK => ?_, ?_⟩
                    · have hG : Grew wq wx := (Grew.drew _).trans hR
                      simp [Deps, Dep, at_, Is] at hD
                      go_simp
                      exact hK _ _ (Grew.refl _) rfl
                    refine ⟨fun a_ wx hR hD => ⟨fun hgd K hK => ?_, fun hgd => ?_⟩, ?_⟩
                    · have hG : Grew wq wx := (Grew.drew _).trans hR
                      exfalso
                      simp [Deps, Dep, at_, Is] at hD
                      simp_all
                    · exact rfl
                    refine ⟨fun a_ wx hR hD => ⟨fun hgd K hK => ?_, fun hgd => ?_⟩, ?_⟩
                    · have hG : Grew wq wx := (Grew.drew _).trans hR
                      exfalso
                      simp [Deps, Dep, at_, Is] at hD
                      simp_all
                    · exact rfl
                    refine ⟨fun a_ wx hR hD => ⟨fun hgd K hK => ?_, fun hgd => ?_⟩, ?_⟩
                    · have hG : Grew wq wx := (Grew.drew _).trans hR
                      exfalso
                      simp [Deps, Dep, at_, Is] at hD
                      simp_all
                    · exact rfl
                    refine ⟨fun a_ wx hR hD => ⟨fun hgd K hK => ?_, fun hgd => ?_⟩, ?_⟩
                    · have hG : Grew wq wx := (Grew.drew _).trans hR
                      exfalso
                      simp [Deps, Dep, at_, Is] at hD
                      simp_all
                    · exact rfl
                    refine ⟨fun a_ wx hR hD => ⟨fun hgd K hK => ?_, fun hgd => ?_⟩, ?_⟩
                    · have hG : Grew wq wx := (Grew.drew _).trans hR
                      exfalso
                      simp [Deps, Dep, at_, Is] at hD
                      simp_all
                    · exact rfl
                    refine ⟨fun a_ wx hR hD => ⟨fun hgd K hK => ?_, fun hgd => ?_⟩, ?_⟩
                    · have hG : Grew wq wx := (Grew.drew _).trans hR
                      exfalso
                      simp [Deps, Dep, at_, Is] at hD
                      simp_all
                    · exact rfl
                    refine ⟨fun a_ wx hR hD => ⟨fun hgd K hK => ?_, fun hgd => ?_⟩, ?_⟩
                    · have hG : Grew wq wx := (Grew.drew _).trans hR
                      exfalso
                      simp [Deps, Dep, at_, Is] at hD
                      simp_all
                    · exact rfl
                    refine ⟨fun a_ wx hR hD => ⟨fun hgd K hK => ?_, fun hgd => ?_⟩, ?_⟩
                    · have hG : Grew wq wx := (Grew.drew _).trans hR
                      exfalso
                      simp [Deps, Dep, at_, Is] at hD
                      simp_all
                    · exact rfl
                    refine ⟨fun a_ wx hR hD => ⟨fun hgd K hK => ?_, fun hgd => ?_⟩, ?_⟩
                    · have hG : Grew wq wx := (Grew.drew _).trans hR
                      exfalso
                      simp [Deps, Dep, at_, Is] at hD
                      simp_all
                    · exact rfl
                    refine ⟨fun a_ wx hR hD => ⟨fun hgd K hK => ?_, fun hgd => ?_⟩, ?_⟩
                    · have hG : Grew wq wx := (Grew.drew _).trans hR
                      exfalso
                      simp [Deps, Dep, at_, Is] at hD
                      simp_all
                    · exact rfl
                    trivial
                  · show EndHold _ _ _ _ _ _ _
                    refine end_all (xs := [_, _, _, _, _, _, _, _, _, _, _, _, _, _, _, _, _, _, _, _, _, _, _, _]) ⟨rfl, rfl, rfl, rfl, rfl, rfl, rfl, rfl, rfl, rfl, rfl, rfl, rfl, rfl, rfl, rfl, rfl, rfl, rfl, rfl, rfl, rfl, rfl, rfl, trivial⟩ ?_
                    rintro w8 hR1 -
                    refine ⟨?_⟩
                    have hG_w8 : Grew wq w8 := (Grew.drew _).trans hR1
                    clear hR1
                    simp only [Act.put, List.setIfInBounds_toArray, List.set_cons_succ, List.set_cons_zero, dropN, putEach]
                    go_wp2_with fail
                    go_roundw
                    case rel => exact ⟨j + 1, by go_num, by omega, fun j' y' hj' hy' hf' => by
                      rcases Nat.lt_or_ge j' j with h | h
                      · exact HA2.out j' y' h hy' hf'
                      · obtain rfl : j' = j := by omega
                        rw [HYJ.out] at hy'
                        obtain rfl := Option.some.inj hy'
                        exact absurd hf'.symm HF'.out, Grew.trans HG2.out hG_w8⟩
                    case measure => simp [intOf]; omega
              · obtain rfl : k = j := by omega
                have d3 : decide ((k : Int) < (k : Int)) = false := decide_eq_false (by omega)
                have d4 : decide (k < k) = false := decide_eq_false (by omega)
                go_wp2_with fail
                go_roundw
                case rel => exact ⟨i + 1, by go_num, by omega, fun j' e' hj' he' hf' => by
                  rcases Nat.lt_or_ge j' i with h | h
                  · exact HAG.out j' e' h he' hf'
                  · obtain rfl : j' = i := by omega
                    rw [HEI.out] at he'
                    obtain rfl := Option.some.inj he'
                    have h1 := HES.out; have h2 := HHF.out; have h3 := HAB.out
                    obtain ⟨j0, hj0⟩ : ∃ j0 : Nat, e.f0 - (F + 1) = (j0 : Int) := ⟨(e.f0 - (F + 1)).toNat, by omega⟩
                    have hj0k : j0 < m.length := by rw [← HK.out]; omega
                    have hy0 := List.getElem?_eq_getElem hj0k
                    have h4 := mayL_at RB.out.seq hy0
                    rw [← HK.out] at h4
                    have h5 := HA2.out j0 _ (by omega) hy0 (by omega)
                    rw [hj0, Int.toNat_natCast, hy0, h5], HG2.out⟩
                case measure => simp [intOf]; omega
          · obtain rfl : n = i := by omega
            have d1 : decide ((n : Int) < (n : Int)) = false := decide_eq_false (by omega)
            have d2 : decide (n < n) = false := decide_eq_false (by omega)
            go_wp2_with fail
            clear c0 c1 c2 d1 d2
            go_loopw [7] (fun iv wq => ∃ q : Nat, iv = .int .i64 (q : Int) ∧ q ≤ k + 1 ∧ (∀ q' : Nat, q' < q → F + (q' : Int) ≠ la) ∧ Grew W0 wq) (fun iv _ => k + 1 - (intOf iv).toNat)
            case atStart => exact ⟨0, rfl, Nat.zero_le _, fun j hj => absurd hj (Nat.not_lt_zero _), HGR.out⟩
            case round =>
              obtain ⟨q, rfl, hq, hne, hgr2⟩ := hrel
              have HG2 := Lib.hid hgr2
              have HNE := Lib.hid hne
              clear hgr2 hne
              rename World => wq
              obtain ⟨c0, c1, c2⟩ := CB0.out wq HG2.out
              obtain ⟨d0, d1, d2⟩ := CB1.out wq HG2.out
              by_cases hqk : q ≤ k
              · have d3 : decide ((q : Int) ≤ (k : Int)) = true := decide_eq_true (by omega)
                have d4 : decide (q ≤ k) = true := decide_eq_true hqk
                have w1 : IntKind.i64.wrap (F + (q : Int)) = F + (q : Int) := by have h1 := HA0.out; have h2 := HHF.out; have h3 := HBN.out; exact IntWalk.i64_in _ (by omega)
                by_cases hla : F + (q : Int) = la
                · have y1 : (F + (q : Int) == la) = true := by simp [hla]
                  have y2 : decide (F + (q : Int) = la) = true := decide_eq_true hla
                  have i3 : (q : Int) ≤ (cb : Int) := by omega
                  have n3 : q ≤ cb := by omega
                  have HCH1 := Lib.hid (fun wx (h : Grew w wx) => rachain_c wx (bytesOf a) A n ca l (HCA.out wx h) HN.out.symm hca (by omega) (bytesOf_bytes _) (by rw [bytesOf_length, RA.out.sz]; omega) RA.out.good)
                  rw [str_bytes] at HCH1
                  have HCH := Lib.hid (fun wx (h : Grew w wx) => rachain_c wx (bytesOf b) B q cb (m.take q) (C_takeE (HCB.out wx h) hqk) (by rw [List.length_take, ← HK.out]; omega) n3 (by omega) (bytesOf_bytes _) (by rw [bytesOf_length, RB.out.sz]; omega) (fun e he => RB.out.good e (List.mem_of_mem_take he)))
                  rw [str_bytes] at HCH
                  obtain ⟨D, hD⟩ : ∃ D, D = strOfNums (chainE (bytesOf a) l) := ⟨_, rfl⟩
                  obtain ⟨C2, hC2⟩ : ∃ C2, C2 = strOfNums (chainE (bytesOf b) (m.take q)) := ⟨_, rfl⟩
                  rw [← hD] at HCH1
                  rw [← hC2] at HCH
                  have hdd : D = digP a la l := by rw [hD]; unfold digP; rw [← HMAE.out]; rfl
                  have HDE := Lib.hid hdd
                  have HCE := Lib.hid hC2
                  have HQ := Lib.hid hla
                  clear hD hC2 hla hdd
                  go_wp2_with fail
                  clear c0 c1 c2 d0 d1 d2 d3 d4 w1 y1 y2
                  apply region_grew [Is _, Is _, Is _, Is _, Is _, Is _, Is _, Is _, Is _, Is _, Is _] [([(2, none)], none), ([(81, some 0)], none), ([(2, none)], none), ([(83, some 2)], none), ([(82, some 1), (84, some 3)], none), ([(3, none)], none), ([(86, some 5)], none), ([(3, none)], none), ([(88, some 7)], none), ([(7, none)], none), ([(89, some 8), (90, some 9)], none)] [(81, 0), (82, 1), (83, 2), (84, 3), (85, 4), (86, 5), (87, 6), (88, 7), (89, 8), (90, 9), (91, 10)] rfl (by kernel_rfl) (by kernel_rfl) (show Stable Grew _ from ⟨Is.stable _, Is.stable _, Is.stable _, Is.stable _, Is.stable _, Is.stable _, Is.stable _, Is.stable _, Is.stable _, Is.stable _, Is.stable _, trivial⟩)
                  · show OpsHold _ _ _ _ _ _ _ _ _
                    refine ⟨fun a_ wx hR hD K hK => ?_, ?_⟩
                    · have hG : Grew wq wx := (Grew.drew _).trans hR
                      simp [Deps, Dep, at_, Is] at hD
                      go_simp
                      exact hK _ _ (Grew.refl _) rfl
                    refine ⟨fun a_ wx hR hD K hK => ?_, ?_⟩
                    · have hG : Grew wq wx := (Grew.drew _).trans hR
                      simp [Deps, Dep, at_, Is] at hD
                      obtain ⟨e0, e1, e2⟩ := CB0.out wx (Grew.trans HG2.out hG)
                      go_simp
                      exact hK _ _ (Grew.refl _) rfl
                    refine ⟨fun a_ wx hR hD K hK => ?_, ?_⟩
                    · have hG : Grew wq wx := (Grew.drew _).trans hR
                      simp [Deps, Dep, at_, Is] at hD
                      go_simp
                      exact hK _ _ (Grew.refl _) rfl
                    refine ⟨fun a_ wx hR hD K hK => ?_, ?_⟩
                    · have hG : Grew wq wx := (Grew.drew _).trans hR
                      simp [Deps, Dep, at_, Is] at hD
                      obtain ⟨e0, e1, e2⟩ := CB0.out wx (Grew.trans HG2.out hG)
                      go_simp
                      exact hK _ _ (Grew.refl _) rfl
                    refine ⟨fun a_ wx hR hD K hK => ?_, ?_⟩
                    · have hG : Grew wq wx := (Grew.drew _).trans hR
                      simp [Deps, Dep, at_, Is] at hD
                      obtain ⟨hd0, hd1⟩ := hD
                      go_simp
                      have hcn := HCH1.out wx (Grew.trans HG0.out (Grew.trans HG2.out hG))
                      with_reducible refine hcn.mono ?_
                      clear hcn
                      rintro e wy ⟨v, rfl, hv, hg⟩
                      exact hK _ _ hg hv
                    refine ⟨fun a_ wx hR hD K hK => ?_, ?_⟩
                    · have hG : Grew wq wx := (Grew.drew _).trans hR
                      simp [Deps, Dep, at_, Is] at hD
                      go_simp
                      exact hK _ _ (Grew.refl _) rfl
                    refine ⟨fun a_ wx hR hD K hK => ?_, ?_⟩
                    · have hG : Grew wq wx := (Grew.drew _).trans hR
                      simp [Deps, Dep, at_, Is] at hD
                      obtain ⟨e0, e1, e2⟩ := CB1.out wx (Grew.trans HG2.out hG)
                      go_simp
                      exact hK _ _ (Grew.refl _) rfl
                    refine ⟨fun a_ wx hR hD K hK => ?_, ?_⟩
                    · have hG : Grew wq wx := (Grew.drew _).trans hR
                      simp [Deps, Dep, at_, Is] at hD
                      go_simp
                      exact hK _ _ (Grew.refl _) rfl
                    refine ⟨fun a_ wx hR hD K hK => ?_, ?_⟩
                    · have hG : Grew wq wx := (Grew.drew _).trans hR
                      simp [Deps, Dep, at_, Is] at hD
                      obtain ⟨e0, e1, e2⟩ := CB1.out wx (Grew.trans HG2.out hG)
                      go_simp
                      exact hK _ _ (Grew.refl _) rfl
                    refine ⟨fun a_ wx hR hD K hK => ?_, ?_⟩
                    · have hG : Grew wq wx := (Grew.drew _).trans hR
                      simp [Deps, Dep, at_, Is] at hD
                      go_simp
                      exact hK _ _ (Grew.refl _) rfl
                    refine ⟨fun a_ wx hR hD K hK => ?_, ?_⟩
                    · have hG : Grew wq wx := (Grew.drew _).trans hR
                      simp [Deps, Dep, at_, Is] at hD
                      obtain ⟨hd0, hd1⟩ := hD
                      go_simp
                      exact hK _ _ (Grew.refl _) rfl
                    trivial
                  · show EndHold _ _ _ _ _ _ _
                    refine end_all (xs := [_, _, _, _, _, _, _, _, _, _, _]) ⟨rfl, rfl, rfl, rfl, rfl, rfl, rfl, rfl, rfl, rfl, rfl, trivial⟩ ?_
                    rintro w9 hR1 -
                    refine ⟨?_⟩
                    have hG_w9 : Grew wq w9 := (Grew.drew _).trans hR1
                    clear hR1
                    simp only [Act.put, List.setIfInBounds_toArray, List.set_cons_succ, List.set_cons_zero, dropN, putEach]
                    go_wp2_with fail
                    refine (HCH.out w9 (Grew.trans HG0.out (Grew.trans HG2.out hG_w9))).mono ?_
                    rintro e w10 ⟨_, rfl, rfl, hg10⟩
                    go_wp2_with fail
                    go_ret
                    have hfin : (D.toList == C2.toList) = R := by
                      have h2 := HHF.out
                      by_cases hDC : D = C2
                      · rw [(tl_beq D C2).2 hDC, HR.out, folP_true]
                        refine ⟨HMAE.out.symm, HMBE.out.symm, HAB.out, fun j e hj hf => ?_, fun h => ?_⟩
                        · rw [← HK.out, ← h2] at hf ⊢
                          exact HAG.out j e (by rw [HN.out]; exact (List.getElem?_eq_some_iff.1 hj).1) hj hf
                        · rw [← HK.out, ← h2, show la - (F + 1) + 1 = (q : Int) from by have := HQ.out; omega, Int.toNat_natCast, ← HDE.out, ← HCE.out]
                          exact hDC
                      · have hno : ¬ FolP a la l b lb m := fun h => by
                          have h5 := h.2.2.2.2 (by rw [← HK.out, ← h2]; have := HQ.out; omega)
                          rw [← HK.out, ← h2, show la - (F + 1) + 1 = (q : Int) from by have := HQ.out; omega, Int.toNat_natCast, ← HDE.out, ← HCE.out] at h5
                          exact hDC h5
                        rw [HR.out, folP_false hno]
                        cases hx : (D.toList == C2.toList) with
                        | false => rfl
                        | true => exact absurd ((tl_beq D C2).1 hx) hDC
                    exact ⟨_, rfl, by show Value.bool _ = Value.bool R; rw [hfin], Grew.trans HG0.out (Grew.trans HG2.out (Grew.trans hG_w9 hg10))⟩
                · have y1 : (F + (q : Int) == la) = false := by simpa using hla
                  have y2 : decide (F + (q : Int) = la) = false := decide_eq_false hla
                  have HLA := Lib.hid hla
                  clear hla
                  go_wp2_with fail
                  go_roundw
                  case rel => exact ⟨q + 1, by go_num, by omega, fun q' hq' => by
                    rcases Nat.lt_or_ge q' q with h | h
                    · exact HNE.out q' h
                    · obtain rfl : q' = q := by omega
                      exact HLA.out, HG2.out⟩
                  case measure => simp [intOf]; omega
              · have d3 : decide ((q : Int) ≤ (k : Int)) = false := decide_eq_false (by omega)
                have d4 : decide (q ≤ k) = false := decide_eq_false hqk
                have hyes : FolP a la l b lb m := by
                  have h2 := HHF.out
                  refine ⟨HMAE.out.symm, HMBE.out.symm, HAB.out, fun j e hj hf => ?_, fun h => ?_⟩
                  · rw [← HK.out, ← h2] at hf ⊢
                    exact HAG.out j e (by rw [HN.out]; exact (List.getElem?_eq_some_iff.1 hj).1) hj hf
                  · exfalso
                    rw [← HK.out, ← h2] at h
                    have h3 := HAB.out
                    exact HNE.out (la - F).toNat (by omega) (by omega)
                have HR0 := Lib.hid (HR.out.trans (folP_true hyes))
                clear hyes
                go_wp2_with fail
                go_ret
                exact ⟨_, rfl, by rw [HR0.out]; rfl, Grew.trans HG0.out HG2.out⟩
      · have x1 : decide (lb < la) = true := decide_eq_true (by omega)
        go_wp2_with fail
        go_ret
        exact ⟨_, rfl, by rw [HR.out, folP_false (fun h => by have := h.2.2.1; omega)]; rfl, Grew.trans HG0.out hg2'⟩
end Go.Proofs.Ytmifoihfpjomaaa.F
