/- Texts of this seat laid together: DelG, DelH. -/
import Derived.Test.YtimcafohmahapaaSC

-- DelG
namespace Go.Proofs.Ytimcafohmahapaa.F
open Go Go.RowKit Go.Proofs.YtimcafohmahapaaW.PrintWords Go.Proofs.YtimcafohmahapaaW.PrintLast Go.Proofs.YtimcafohmahapaaW.PrintMore Go.Proofs.YtimcafohmahapaaM Go.Proofs.YtimcafohmahapaaR
attribute [local go_sem] max2_int min2_int max_two min_two
set_option linter.unusedSimpArgs false
set_option linter.unusedVariables false
set_option maxRecDepth 100000
/-- the bytes of a piece -/
def outP (b : ByteArray) (s : Nat) (p : Pc) : ByteArray := if p.f0 = true then blkT b s p.f1.toNat else p.f2
/-- is it a block that isn't there? -/
def farP (n : Nat) (p : Pc) : Bool := p.f0 && decide ((n : Int) ≤ p.f1)
def joinP (b : ByteArray) (s : Nat) : List Pc → ByteArray → Option ByteArray
  | [], acc => some acc
  | p :: l, acc => if 1024 < acc.size + (outP b s p).size then none else joinP b s l (acc ++ outP b s p)
def patB (b : ByteArray) (s : Nat) (l : List Pc) : ByteArray × Int :=
  if l.any (farP (cntT b s)) = true then (⟨#[]⟩, 9) else if 1024 < b.size then (⟨#[]⟩, 2) else match joinP b s l ⟨#[]⟩ with
    | none => (⟨#[]⟩, 2)
    | some t => (t, 0)
/-- what is made of a basis and pieces -/
def patP (b : ByteArray) (size : Int) (l : List Pc) : ByteArray × Int :=
  if mayD l = true then if size < 1 ∨ 128 < size then (⟨#[]⟩, 9) else patB b size.toNat l else (⟨#[]⟩, 1)
theorem any_take {n : Nat} {l : List Pc} {i : Nat} {e : Pc} (h : l[i]? = some e) (h1 : (l.take i).any (farP n) = false) (h2 : farP n e = false) : (l.take (i + 1)).any (farP n) = false := by
  rw [List.take_add_one, h, List.any_append, h1]
  simp [h2]
theorem any_at {n : Nat} {l : List Pc} {i : Nat} {e : Pc} (h : l[i]? = some e) (h2 : farP n e = true) : l.any (farP n) = true := List.any_eq_true.2 ⟨e, List.mem_of_getElem? h, h2⟩
theorem blk_win (b : ByteArray) (s m : Nat) (h : m * s ≤ b.size) : blkT b s m = b.extract (m * s) (min (m * s + s) b.size) := by
  unfold blkT
  rw [Nat.min_eq_left h]
theorem joinP_cons {b : ByteArray} {s : Nat} {l : List Pc} {i : Nat} {e : Pc} (h : l[i]? = some e) (acc : ByteArray) : joinP b s (l.drop i) acc = if 1024 < acc.size + (outP b s e).size then none else joinP b s (l.drop (i + 1)) (acc ++ outP b s e) := by
  obtain ⟨hi, rfl⟩ := List.getElem?_eq_some_iff.1 h
  rw [List.drop_eq_getElem_cons hi, joinP]
theorem bytesOf_app (x y : ByteArray) : bytesOf (x ++ y) = bytesOf x ++ bytesOf y := by
  unfold bytesOf
  simp [ByteArray.data_append]
theorem own_nil (base : Nat) (w : World) : Own base [] w (.slice none 0 0) := ⟨by simp [nums], .inl ⟨rfl, rfl⟩⟩
theorem blk_sizeP (t : ByteArray) (s m : Nat) : (blkT t s m).size ≤ s := by
  unfold blkT
  rw [ByteArray.size_extract]
  omega
theorem slice_min (t : ByteArray) (a z : Nat) (h : a ≤ z) (h2 : z ≤ t.size) (w : World) : (Instr.slice 9 (.string t) (some (.int .i64 (a : Int))) (some (.int .i64 (z : Int))) none).run Try.prog w = .ok (.string (t.extract a z)) w := by
  rw [run_slice_string w 9 t .i64 .i64 _ _ Try.underlying9 (by omega) (by omega) (by omega), Int.toNat_natCast, Int.toNat_natCast]
theorem mayDL_ok2 {b : Bool} {l : List Pc} (h : mayDL b l = true) : ∀ p ∈ l, p.f0 = true → 0 ≤ p.f1 := by
  induction l generalizing b with
  | nil => intro p hp; simp at hp
  | cons x l ih =>
    simp only [mayDL, Bool.and_eq_true] at h
    intro p hp hf
    rcases List.mem_cons.1 hp with rfl | hp
    · have h0 := h.1
      unfold okP at h0
      rw [if_pos hf] at h0
      exact (of_decide_eq_true h0).1
    · exact ih h.2 p hp hf
set_option maxHeartbeats 8000000 in
theorem patch_c (w : World) (b : ByteArray) (size : Int) (l : List Pc) (A : Option Addr) (c : Nat) (hr : Kd.C k43 w A l.length l) (hc : l.length ≤ c) (hb : b.size ≤ 3000) (hs : ∀ p ∈ l, p.f2.size ≤ 5000) :
    Calls Try.prog 20 #[.string b, .int .i64 size, .slice A l.length c] w (Tells w (Is (.tuple #[.string (patP b size l).1, .int .i64 (patP b size l).2]))) := by
  obtain ⟨R, hR⟩ : ∃ R, R = patP b size l := ⟨_, rfl⟩
  rw [← hR]
  unfold patP at hR
  have HCK := Lib.hid (chk_c A c l w hr hc)
  by_cases hm : mayD l = true
  case neg =>
    rw [if_neg hm] at hR
    subst hR
    have hm2 : mayD l = false := by simpa using hm
    rw [hm2] at HCK
    obtain ⟨n, hn⟩ : ∃ n, n = l.length := ⟨_, rfl⟩
    rw [← hn] at HCK hc ⊢
    clear hr hm hm2 hn hs
    go_enter Try.func20, Try.ntmps20
    go_wp2_with fail
    refine HCK.out.mono ?_
    rintro e w2 ⟨_, rfl, rfl, hg2⟩
    go_wp2_with fail
    go_ret2
    exact ⟨_, rfl, rfl, hg2⟩
  rw [if_pos hm] at hR
  rw [hm] at HCK
  by_cases hz : size < 1
  · rw [if_pos (.inl hz)] at hR
    subst hR
    have d1 : decide (size < 1) = true := decide_eq_true hz
    obtain ⟨n, hn⟩ : ∃ n, n = l.length := ⟨_, rfl⟩
    rw [← hn] at HCK hc ⊢
    clear hr hm hn hs
    go_enter Try.func20, Try.ntmps20
    go_wp2_with fail
    refine HCK.out.mono ?_
    rintro e w2 ⟨_, rfl, rfl, hg2⟩
    go_wp2_with fail
    go_ret2
    exact ⟨_, rfl, rfl, hg2⟩
  have d1 : decide (size < 1) = false := decide_eq_false hz
  by_cases hz2 : 128 < size
  · rw [if_pos (.inr hz2)] at hR
    subst hR
    have d2 : decide (128 < size) = true := decide_eq_true hz2
    obtain ⟨n, hn⟩ : ∃ n, n = l.length := ⟨_, rfl⟩
    rw [← hn] at HCK hc ⊢
    clear hr hm hn hs
    go_enter Try.func20, Try.ntmps20
    go_wp2_with fail
    refine HCK.out.mono ?_
    rintro e w2 ⟨_, rfl, rfl, hg2⟩
    go_wp2_with fail
    go_ret2
    exact ⟨_, rfl, rfl, hg2⟩
  rw [if_neg (by omega)] at hR
  obtain ⟨s, rfl⟩ := Int.eq_ofNat_of_zero_le (show 0 ≤ size by omega)
  rw [Int.toNat_natCast] at hR
  have d2 : decide (128 < (s : Int)) = false := decide_eq_false hz2
  have d1n : decide (s < 1) = false := decide_eq_false (by omega)
  have d2n : decide (128 < s) = false := decide_eq_false (by omega)
  have hs1 : 1 ≤ s := by omega
  have hs2 : s ≤ 128 := by omega
  have hm0 := hm
  unfold mayD at hm0
  simp only [Bool.and_eq_true, decide_eq_true_eq] at hm0
  have hll := hm0.1
  have HOK := Lib.hid (fun (p : Pc) (hp : p ∈ l) (hf : p.f0 = true) => show 0 ≤ p.f1 from by
    have h9 := mayDL_ok2 hm0.2 p hp hf
    exact h9)
  have HR := Lib.hid (fun wx (h : Grew w wx) => Kd.C_below hr h)
  obtain ⟨n, hn⟩ : ∃ n, n = l.length := ⟨_, rfl⟩
  have HN := Lib.hid hn
  rw [← hn] at HCK hc hll ⊢
  obtain ⟨T, hT⟩ : ∃ T, b.size = T := ⟨_, rfl⟩
  obtain ⟨N, hN⟩ : ∃ N, N = cntT b s := ⟨_, rfl⟩
  have hN2 : N = (T + s - 1) / s := by rw [hN, ← hT]; rfl
  have hNl : N ≤ 4000 := by rw [hN2]; exact Nat.le_trans (Nat.div_le_self _ _) (by omega)
  have q1 : IntKind.i64.wrap ((T : Int) + (s : Int)) = (T : Int) + (s : Int) := IntWalk.i64_in _ (by omega)
  have q2 : IntKind.i64.wrap ((T : Int) + (s : Int) - 1) = (T : Int) + (s : Int) - 1 := IntWalk.i64_in _ (by omega)
  have q3 : ((T : Int) + (s : Int) - 1).tdiv (s : Int) = (N : Int) := by
    rw [Int.tdiv_eq_ediv_of_nonneg (by omega), hN2, Int.natCast_ediv, show (((T + s - 1 : Nat)) : Int) = (T : Int) + (s : Int) - 1 from by omega]
  have q4 : IntKind.i64.wrap (N : Int) = (N : Int) := IntWalk.i64_in _ (by omega)
  have q5 : ((s : Int) == 0) = false := by simp; omega
  have q6 : (s == 0) = false := by simp; omega
  have HNN := Lib.hid hN
  have HT := Lib.hid hT
  have HS := Lib.hid hs
  obtain ⟨B0, hB0⟩ : ∃ B0, B0 = w.heap.size := ⟨_, rfl⟩
  have HB0 := Lib.hid hB0
  unfold patB at hR
  rw [← hN, hT] at hR
  have HRE := Lib.hid hR
  clear hr hm hn hm0 hN hN2 hR hs hB0
  go_enter Try.func20, Try.ntmps20
  go_wp2_with fail
  refine HCK.out.mono ?_
  rintro e w2 ⟨_, rfl, rfl, hg2⟩
  have HG2 := Lib.hid hg2
  clear hg2
  go_wp2_with fail
  clear q1 q2 q3 q4 q5 q6 d1 d2 d1n d2n
  go_loopw [33] (fun iv wr => ∃ i : Nat, iv = .int .i64 (i : Int) ∧ i ≤ n ∧ (l.take i).any (farP N) = false ∧ Grew w wr) (fun iv _ => n - (intOf iv).toNat)
  case atStart => exact ⟨0, rfl, Nat.zero_le _, rfl, HG2.out⟩
  case round =>
    obtain ⟨i, rfl, hi, hany, hgr⟩ := hrel
    by_cases hlt : i < n
    · have d1 : decide ((i : Int) < (n : Int)) = true := decide_eq_true (by omega)
      have d2 : decide (i < n) = true := decide_eq_true hlt
      have i1 : (i : Int) < (n : Int) := by omega
      obtain ⟨ad1, rfl, a0, a1, a2⟩ := at_T43 (HR.out wr hgr) (i : Int) (by omega) (by rw [← HN.out]; exact i1)
      have hat := rdP_at (l := l) (i := i) (by rw [← HN.out]; exact hlt)
      obtain ⟨e, he⟩ : ∃ e, e = rd_T43 l (i : Int) := ⟨_, rfl⟩
      rw [← he] at hat
      rw [Int.toNat_natCast, ← he] at a0 a1 a2
      have wi : IntKind.i64.wrap ((i : Int) + 1) = (i : Int) + 1 := IntWalk.i64_in _ (by omega)
      have HAT := Lib.hid hat
      have HANY := Lib.hid hany
      have HGR := Lib.hid hgr
      have HP := Lib.hid (HOK.out e (List.mem_of_getElem? hat))
      clear hany hat he hgr
      obtain ⟨f0, f1, f2⟩ := e
      simp only at a0 a1 a2
      cases f0 with
      | false =>
        go_wp2_with fail
        go_roundw
        case rel => exact ⟨i + 1, by go_num, by omega, any_take HAT.out HANY.out rfl, Grew.trans HGR.out (Grew.alloc _ _)⟩
        case measure => simp [intOf]; omega
      | true =>
        by_cases hf : (N : Int) ≤ f1
        · have d3 : decide ((N : Int) ≤ f1) = true := decide_eq_true hf
          have hRe := Lib.hid (show R = (⟨#[]⟩, 9) from by
            rw [HRE.out, any_at HAT.out (by simp [farP, hf]), if_pos rfl])
          go_wp2_with fail
          go_ret2
          rw [hRe.out]
          exact ⟨_, rfl, rfl, Grew.trans HGR.out (Grew.alloc _ _)⟩
        · have d3 : decide ((N : Int) ≤ f1) = false := decide_eq_false hf
          go_wp2_with fail
          go_roundw
          case rel => exact ⟨i + 1, by go_num, by omega, any_take HAT.out HANY.out (by simp [farP]; omega), Grew.trans HGR.out (Grew.alloc _ _)⟩
          case measure => simp [intOf]; omega
    · obtain rfl : n = i := by omega
      have d1 : decide ((n : Int) < (n : Int)) = false := decide_eq_false (by omega)
      have d2 : decide (n < n) = false := decide_eq_false (by omega)
      have hany2 : l.any (farP N) = false := by
        rw [HN.out, List.take_length] at hany; exact hany
      have HFAR := Lib.hid hany2
      have HGR := Lib.hid hgr
      clear hany hany2 hgr
      by_cases hbig : 1024 < T
      · have d3 : decide (1024 < T) = true := decide_eq_true hbig
        have d3' : decide (1024 < (T : Int)) = true := decide_eq_true (by omega)
        have hRe := Lib.hid (show R = (⟨#[]⟩, 2) from by
          rw [HRE.out, HFAR.out, if_neg (by simp), if_pos hbig])
        go_wp2_with fail
        go_ret2
        rw [hRe.out]
        exact ⟨_, rfl, rfl, HGR.out⟩
      · have d3 : decide (1024 < T) = false := decide_eq_false hbig
        have d3' : decide (1024 < (T : Int)) = false := decide_eq_false (by omega)
        go_wp2_with fail
        go_loopw [11, 51] (fun v11 iv wr => ∃ (i : Nat) (acc : ByteArray), iv = .int .i64 (i : Int) ∧ i ≤ n ∧ joinP b s (l.drop i) acc = joinP b s l ⟨#[]⟩ ∧ acc.size ≤ 1024 ∧ Own B0 (bytesOf acc) wr v11 ∧ Grew w wr) (fun _ iv _ => n - (intOf iv).toNat)
        case atStart => exact ⟨0, ⟨#[]⟩, rfl, Nat.zero_le _, rfl, by decide, own_nil _ _, HGR.out⟩
        case round =>
          obtain ⟨j, acc, rfl, hj, hjn, hacc, hown, hgr⟩ := hrel
          obtain ⟨A5, c5, rfl⟩ := own_slice hown
          have hm : (bytesOf acc).length = acc.size := bytesOf_length acc
          obtain ⟨m, hmm⟩ : ∃ m, m = (bytesOf acc).length := ⟨_, rfl⟩
          rw [← hmm] at hm
          have HOWN := Lib.hid (fun wx (h : Grew wr wx) => show Own B0 (bytesOf acc) wx (.slice A5 m c5) from by rw [hmm]; exact Own.stable _ _ _ _ _ h hown)
          rw [← hmm]
          have hm2 : m ≤ 1024 := by omega
          have HM := Lib.hid hm
          have HMM := Lib.hid hmm
          have HJN := Lib.hid hjn
          have HGR2 := Lib.hid hgr
          clear hown hmm hm hjn hacc hgr
          by_cases hlt : j < n
          · have d1 : decide ((j : Int) < (n : Int)) = true := decide_eq_true (by omega)
            have d2 : decide (j < n) = true := decide_eq_true hlt
            have i1 : (j : Int) < (n : Int) := by omega
            obtain ⟨ad1, rfl, a0, a1, a2⟩ := at_T43 (HR.out wr HGR2.out) (j : Int) (by omega) (by rw [← HN.out]; exact i1)
            have hat := rdP_at (l := l) (i := j) (by rw [← HN.out]; exact hlt)
            obtain ⟨e, he⟩ : ∃ e, e = rd_T43 l (j : Int) := ⟨_, rfl⟩
            rw [← he] at hat
            rw [Int.toNat_natCast, ← he] at a0 a1 a2
            have wi : IntKind.i64.wrap ((j : Int) + 1) = (j : Int) + 1 := IntWalk.i64_in _ (by omega)
            have HWI := Lib.hid wi
            have wm : IntKind.i64.wrap (1024 - (m : Int)) = 1024 - (m : Int) := IntWalk.i64_in _ (by omega)
            have hjc := joinP_cons (b := b) (s := s) hat acc
            rw [HJN.out] at hjc
            have hos : (outP b s e).size ≤ 5000 := by
              unfold outP
              split
              · have := blk_sizeP b s e.f1.toNat; omega
              · exact HS.out e (List.mem_of_getElem? hat)
            obtain ⟨o, ho⟩ : ∃ o, o = outP b s e := ⟨_, rfl⟩
            rw [← ho] at hjc hos
            obtain ⟨z, hz0⟩ : ∃ z, z = o.size := ⟨_, rfl⟩
            have hz0' := hz0.symm
            have HJC := Lib.hid hjc
            have HO := Lib.hid ho
            have hfar := fun hf => List.any_eq_false.1 HFAR.out e (List.mem_of_getElem? hat) hf
            have hpos := HOK.out e (List.mem_of_getElem? hat)
            have HBO := Lib.hid (show (bytesOf acc).length + o.size ≤ 140737488355328 from by rw [← HMM.out]; omega)
            have HZ0 := Lib.hid hz0
            clear hjc ho hat he hos hz0
            obtain ⟨f0, f1, f2⟩ := e
            simp only at a0 a1 a2
            cases f0 with
            | false =>
              have ho2 : f2 = o := HO.out.symm
              rw [ho2] at a2
              clear ho2 hfar hpos
              by_cases hbg : 1024 < m + z
              · have d3 : decide (1024 - (m : Int) < (z : Int)) = true := decide_eq_true (by omega)
                have hRe := Lib.hid (show R = (⟨#[]⟩, 2) from by
                  rw [HRE.out, HFAR.out, if_neg (by simp), if_neg hbig, HJC.out, if_pos (by rw [← HM.out, ← HZ0.out]; exact hbg)])
                go_wp2_with fail
                go_ret2
                rw [hRe.out]
                exact ⟨_, rfl, rfl, Grew.trans HGR2.out (Grew.alloc _ _)⟩
              · have d3 : decide (1024 - (m : Int) < (z : Int)) = false := decide_eq_false (by omega)
                have hjx : joinP b s (l.drop (j + 1)) (acc ++ o) = joinP b s l ⟨#[]⟩ := by
                  rw [HJC.out, if_neg (by rw [← HM.out, ← HZ0.out]; exact hbg)]
                have HJX := Lib.hid hjx
                clear hjx
                obtain ⟨W2, hW2⟩ : ∃ W2, W2 = wr.alloc (.cells #[.bool false, .int .i64 f1, .string o] 43) := ⟨_, rfl⟩
                have HW2 := Lib.hid hW2
                have hg2 : Grew wr W2 := by rw [hW2]; exact Grew.alloc _ _
                have HG2 := Lib.hid (Grew.trans HGR2.out hg2)
                have HO2 := Lib.hid (HOWN.out W2 hg2)
                clear hW2 hg2
                go_upto_region 23 with fail
                rw [← HW2.out]
                go_wp2_with (at_builtin; refine print_append_str (w0 := w) B0 (by rfl) (.tmp 80) (.tmp 81) 23 9 5 (by rfl) Try.underlying23 Try.underlying9 info5 _ (bytesOf acc) o (by rfl) (by rfl) HO2.out (by rw [HB0.out]; exact HG2.out) (by rw [HB0.out]; exact HG2.out.size) HBO.out ?_; intro v1 w6 hown6 hbel6 hgr6; rw [← bytesOf_app] at hown6; rw [HB0.out] at hbel6; replace hown6 := Lib.hid hown6; replace hbel6 := Lib.hid hbel6; clear hgr6)
                go_roundw
                case rel => exact ⟨j + 1, acc ++ o, by go_num, by omega, HJX.out, by rw [ByteArray.size_append, ← HM.out, ← HZ0.out]; omega, hown6.out, hbel6.out⟩
                case measure => have wi := HWI.out; simp [intOf, wi]; omega
            | true =>
              have ho2 : o = blkT b s f1.toNat := HO.out
              have hp1 : 0 ≤ f1 := hpos rfl
              have hp2 : f1 < (N : Int) := by
                simp only [farP, Bool.true_and, decide_eq_true_eq] at hfar
                exact Int.not_le.1 hfar
              obtain ⟨q, rfl⟩ := Int.eq_ofNat_of_zero_le hp1
              rw [Int.toNat_natCast] at ho2
              have hq := (cnt_lt b s q (by omega)).1 (by rw [← HNN.out]; omega)
              rw [HT.out] at hq
              rw [blk_win b s q (by rw [HT.out]; omega), HT.out] at ho2
              obtain ⟨u, hu⟩ : ∃ u, u = q * s := ⟨_, rfl⟩
              rw [← hu] at hq ho2
              have r1 : IntKind.i64.wrap ((q : Int) * (s : Int)) = (u : Int) := by
                rw [show (q : Int) * (s : Int) = (u : Int) from by rw [hu]; push_cast; rfl]
                exact IntWalk.i64_in _ (by omega)
              have r2 : IntKind.i64.wrap ((u : Int) + (s : Int)) = (u : Int) + (s : Int) := IntWalk.i64_in _ (by omega)
              obtain ⟨y, hy⟩ : ∃ y, y = min (u + s) T := ⟨_, rfl⟩
              rw [← hy] at ho2
              have r3 := slice_min b u y (by omega) (by rw [HT.out]; omega)
              rw [← ho2] at r3
              have r4 : (if (T : Int) < (u : Int) + (s : Int) then (T : Int) else (u : Int) + (s : Int)) = (y : Int) := by split <;> omega
              have r5 : (if (u : Int) + (s : Int) < (T : Int) then (u : Int) + (s : Int) else (T : Int)) = (y : Int) := by split <;> omega
              clear hp1 hp2 ho2 hfar hpos hq hu hy
              by_cases hbg : 1024 < m + z
              · have d3 : decide (1024 - (m : Int) < (z : Int)) = true := decide_eq_true (by omega)
                have hRe := Lib.hid (show R = (⟨#[]⟩, 2) from by
                  rw [HRE.out, HFAR.out, if_neg (by simp), if_neg hbig, HJC.out, if_pos (by rw [← HM.out, ← HZ0.out]; exact hbg)])
                go_wp2_with fail
                go_ret2
                rw [hRe.out]
                exact ⟨_, rfl, rfl, Grew.trans HGR2.out (Grew.alloc _ _)⟩
              · have d3 : decide (1024 - (m : Int) < (z : Int)) = false := decide_eq_false (by omega)
                have hjx : joinP b s (l.drop (j + 1)) (acc ++ o) = joinP b s l ⟨#[]⟩ := by
                  rw [HJC.out, if_neg (by rw [← HM.out, ← HZ0.out]; exact hbg)]
                have HJX := Lib.hid hjx
                clear hjx
                obtain ⟨W2, hW2⟩ : ∃ W2, W2 = wr.alloc (.cells #[.bool true, .int .i64 (q : Int), .string f2] 43) := ⟨_, rfl⟩
                have HW2 := Lib.hid hW2
                have hg2 : Grew wr W2 := by rw [hW2]; exact Grew.alloc _ _
                have HG2 := Lib.hid (Grew.trans HGR2.out hg2)
                have HO2 := Lib.hid (HOWN.out W2 hg2)
                clear hW2 hg2
                go_upto_region 23 with fail
                rw [← HW2.out]
                go_wp2_with (at_builtin; refine print_append_str (w0 := w) B0 (by rfl) (.tmp 80) (.tmp 81) 23 9 5 (by rfl) Try.underlying23 Try.underlying9 info5 _ (bytesOf acc) o (by rfl) (by rfl) HO2.out (by rw [HB0.out]; exact HG2.out) (by rw [HB0.out]; exact HG2.out.size) HBO.out ?_; intro v1 w6 hown6 hbel6 hgr6; rw [← bytesOf_app] at hown6; rw [HB0.out] at hbel6; replace hown6 := Lib.hid hown6; replace hbel6 := Lib.hid hbel6; clear hgr6)
                go_roundw
                case rel => exact ⟨j + 1, acc ++ o, by go_num, by omega, HJX.out, by rw [ByteArray.size_append, ← HM.out, ← HZ0.out]; omega, hown6.out, hbel6.out⟩
                case measure => have wi := HWI.out; simp [intOf, wi]; omega
          · obtain rfl : n = j := by omega
            have d1 : decide ((n : Int) < (n : Int)) = false := decide_eq_false (by omega)
            have d2 : decide (n < n) = false := decide_eq_false (by omega)
            have hRe := Lib.hid (show R = (acc, 0) from by
              have h9 := HJN.out
              rw [show l.drop n = [] from by rw [HN.out]; exact List.drop_length, joinP] at h9
              rw [HRE.out, HFAR.out, if_neg (by simp), if_neg hbig, ← h9])
            have hst := Kd.C_string (P := Try.prog) (w := wr) (c := c5) (A := A5) Try.underlying23 Try.underlying5 Try.underlying9 (by
              obtain ⟨A_, c_, hv_, h1_, h2_, hC_⟩ := own_C (HOWN.out wr (Grew.refl _))
              injection hv_ with e1 e2 e3
              rw [← e1] at hC_; exact hC_)
            rw [← HMM.out, str_bytes] at hst
            go_wp2_with fail
            go_ret2
            rw [hRe.out]
            exact ⟨_, rfl, rfl, HGR2.out⟩
end Go.Proofs.Ytimcafohmahapaa.F

-- DelH
namespace Go.Proofs.Ytimcafohmahapaa.F
open Go Go.RowKit Go.Proofs.YtimcafohmahapaaW.PrintWords Go.Proofs.YtimcafohmahapaaW.PrintLast Go.Proofs.YtimcafohmahapaaW.PrintMore Go.Proofs.YtimcafohmahapaaM Go.Proofs.YtimcafohmahapaaR
attribute [local go_sem] max2_int min2_int max_two min_two
set_option linter.unusedSimpArgs false
set_option linter.unusedVariables false
set_option maxRecDepth 100000
theorem rblocks_okP (t : ByteArray) (s : Nat) (h1 : 1 ≤ s) (h2 : s ≤ 128) (ht : t.size ≤ 1024) : strongroomref10_Blocks.f (cntT t s + 2) t (s : Int) = some (blksT t s (cntT t s), 0) := by
  have hd : ¬ (decide ((s : Int) > 128) = true) := by simp; omega
  unfold strongroomref10_Blocks.f
  rw [if_neg (by omega), strongroomref10_Blocks.j0, if_neg hd, if_neg (by omega)]
  have h := rsign_l0 t s (by omega) (by omega) (by omega) (cntT t s) 0 (cntT t s + 1) (by omega) (by omega) (by omega)
  rw [Nat.zero_mul] at h
  exact h
/-- a row of texts, and no error -/
def StrsT (n : Nat) (l : List ByteArray) : World → Value → Prop := fun w v => ∃ A c, v = .tuple #[.slice A n c, .int .i64 0] ∧ n ≤ c ∧ Kd.C Kd.string w A n l
theorem rblocks_cP (t : ByteArray) (s : Nat) (h1 : 1 ≤ s) (h2 : s ≤ 128) (ht : t.size ≤ 1024) (w : World) : Calls Try.prog 36 #[.string t, .int .i64 (s : Int)] w (Tells w (StrsT (cntT t s) (blksT t s (cntT t s)))) := by
  refine (strongroomref10_Blocks.calls _ t (s : Int) _ _ w (rblocks_okP t s h1 h2 ht)).mono fun e w' ⟨v, he, hR, hb⟩ => ?_
  obtain ⟨A', c', rfl, hc', hC⟩ := Kd.R_reads hR
  rw [blksT_len] at he hc' hC
  exact ⟨_, he, ⟨A', c', rfl, hc', hC⟩, hb⟩
theorem blks_at (t : ByteArray) (s n q : Nat) (h : q < n) : (blksT t s n).getD q ByteArray.empty = blkT t s q := by
  unfold blksT
  rw [List.getD_eq_getElem?_getD, List.getElem?_map, List.getElem?_range h]
  rfl
/-- far, as the document says it -/
theorem far_ref {T s N : Nat} {f1 : Int} (hs : 1 ≤ s) (hT : 0 < T) (hN : N = (T + s - 1) / s) : (N : Int) ≤ f1 ↔ ((T : Int) - 1).tdiv (s : Int) < f1 := by
  have h1 : N = (T - 1) / s + 1 := by
    rw [hN, show T + s - 1 = T - 1 + s from by omega, Nat.add_div_right _ (by omega)]
  rw [show (T : Int) - 1 = ((T - 1 : Nat) : Int) from by omega, Int.tdiv_eq_ediv_of_nonneg (by omega), ← Int.natCast_ediv]
  omega
set_option maxHeartbeats 8000000 in
theorem rpatch_c (w : World) (b : ByteArray) (size : Int) (l : List Pc) (A : Option Addr) (c : Nat) (hr : Kd.C k43 w A l.length l) (hc : l.length ≤ c) (hb : b.size ≤ 3000) (hs : ∀ p ∈ l, p.f2.size ≤ 5000) :
    Calls Try.prog 21 #[.string b, .int .i64 size, .slice A l.length c] w (Tells w (Is (.tuple #[.string (patP b size l).1, .int .i64 (patP b size l).2]))) := by
  obtain ⟨R, hR⟩ : ∃ R, R = patP b size l := ⟨_, rfl⟩
  rw [← hR]
  unfold patP at hR
  have HCK := Lib.hid (rmayD_c A c l w hr hc)
  by_cases hm : mayD l = true
  case neg =>
    rw [if_neg hm] at hR
    subst hR
    have hm2 : mayD l = false := by simpa using hm
    rw [hm2] at HCK
    obtain ⟨n, hn⟩ : ∃ n, n = l.length := ⟨_, rfl⟩
    rw [← hn] at HCK hc ⊢
    clear hr hm hm2 hn hs
    go_enter Try.func21, Try.ntmps21
    go_wp2_with fail
    refine HCK.out.mono ?_
    rintro e w2 ⟨_, rfl, rfl, hg2⟩
    go_wp2_with fail
    go_ret2
    exact ⟨_, rfl, rfl, hg2⟩
  rw [if_pos hm] at hR
  rw [hm] at HCK
  by_cases hz : size < 1
  · rw [if_pos (.inl hz)] at hR
    subst hR
    have d1 : decide (size < 1) = true := decide_eq_true hz
    obtain ⟨n, hn⟩ : ∃ n, n = l.length := ⟨_, rfl⟩
    rw [← hn] at HCK hc ⊢
    clear hr hm hn hs
    go_enter Try.func21, Try.ntmps21
    go_wp2_with fail
    refine HCK.out.mono ?_
    rintro e w2 ⟨_, rfl, rfl, hg2⟩
    go_wp2_with fail
    go_ret2
    exact ⟨_, rfl, rfl, hg2⟩
  have d1 : decide (size < 1) = false := decide_eq_false hz
  by_cases hz2 : 128 < size
  · rw [if_pos (.inr hz2)] at hR
    subst hR
    have d2 : decide (128 < size) = true := decide_eq_true hz2
    obtain ⟨n, hn⟩ : ∃ n, n = l.length := ⟨_, rfl⟩
    rw [← hn] at HCK hc ⊢
    clear hr hm hn hs
    go_enter Try.func21, Try.ntmps21
    go_wp2_with fail
    refine HCK.out.mono ?_
    rintro e w2 ⟨_, rfl, rfl, hg2⟩
    go_wp2_with fail
    go_ret2
    exact ⟨_, rfl, rfl, hg2⟩
  rw [if_neg (by omega)] at hR
  obtain ⟨s, rfl⟩ := Int.eq_ofNat_of_zero_le (show 0 ≤ size by omega)
  rw [Int.toNat_natCast] at hR
  have d2 : decide (128 < (s : Int)) = false := decide_eq_false hz2
  have d1n : decide (s < 1) = false := decide_eq_false (by omega)
  have d2n : decide (128 < s) = false := decide_eq_false (by omega)
  have hs1 : 1 ≤ s := by omega
  have hs2 : s ≤ 128 := by omega
  have hm0 := hm
  unfold mayD at hm0
  simp only [Bool.and_eq_true, decide_eq_true_eq] at hm0
  have hll := hm0.1
  have HOK := Lib.hid (fun (p : Pc) (hp : p ∈ l) (hf : p.f0 = true) => show 0 ≤ p.f1 from by
    have h9 := mayDL_ok2 hm0.2 p hp hf
    exact h9)
  have HR := Lib.hid (fun wx (h : Grew w wx) => Kd.C_below hr h)
  obtain ⟨n, hn⟩ : ∃ n, n = l.length := ⟨_, rfl⟩
  have HN := Lib.hid hn
  rw [← hn] at HCK hc hll ⊢
  obtain ⟨T, hT⟩ : ∃ T, b.size = T := ⟨_, rfl⟩
  have HBK := Lib.hid (fun (h : T ≤ 1024) wx => rblocks_cP b s hs1 hs2 (by omega) wx)
  obtain ⟨N, hN⟩ : ∃ N, N = cntT b s := ⟨_, rfl⟩
  have hN2 : N = (T + s - 1) / s := by rw [hN, ← hT]; rfl
  have HN2 := Lib.hid hN2
  rw [← hN] at HBK
  have hNl : N ≤ 4000 := by rw [hN2]; exact Nat.le_trans (Nat.div_le_self _ _) (by omega)
  have HNN := Lib.hid hN
  have HT := Lib.hid hT
  have HS := Lib.hid hs
  unfold patB at hR
  rw [← hN, hT] at hR
  have HRE := Lib.hid hR
  obtain ⟨D, hD⟩ : ∃ D, D = ((T : Int) - 1).tdiv (s : Int) := ⟨_, rfl⟩
  have hD' := hD.symm
  have q2 : IntKind.i64.wrap ((T : Int) - 1) = (T : Int) - 1 := IntWalk.i64_in _ (by omega)
  have hDb : -1 ≤ D ∧ D ≤ 3000 := by
    rcases Nat.eq_zero_or_pos T with h | h
    · subst h
      have h9 : ((0 : Nat) : Int) - 1 = -1 := rfl
      rw [h9] at hD
      rw [Int.neg_tdiv, Int.tdiv_eq_ediv_of_nonneg (by omega)] at hD
      have h8 : (1 : Int) / (s : Int) ≤ 1 := Int.ediv_le_self _ (by omega)
      have h7 : 0 ≤ (1 : Int) / (s : Int) := Int.ediv_nonneg (by omega) (by omega)
      omega
    · have h8 : ((T : Int) - 1) / (s : Int) ≤ (T : Int) - 1 := Int.ediv_le_self _ (by omega)
      have h7 : 0 ≤ ((T : Int) - 1) / (s : Int) := Int.ediv_nonneg (by omega) (by omega)
      rw [Int.tdiv_eq_ediv_of_nonneg (by omega)] at hD
      omega
  have q4 : IntKind.i64.wrap D = D := IntWalk.i64_in _ (by omega)
  have q5 : ((s : Int) == 0) = false := by simp; omega
  have q6 : (s == 0) = false := by simp; omega
  have HD := Lib.hid hD
  clear hr hm hn hm0 hN hN2 hR hs hD
  go_enter Try.func21, Try.ntmps21
  go_wp2_with fail
  refine HCK.out.mono ?_
  rintro e w2 ⟨_, rfl, rfl, hg2⟩
  have HG2 := Lib.hid hg2
  clear hg2
  go_wp2_with fail
  clear d1 d2 d1n d2n
  go_loopw [8] (fun iv wr => ∃ i : Nat, iv = .int .i64 (i : Int) ∧ i ≤ n ∧ (l.take i).any (farP N) = false ∧ Grew w wr) (fun iv _ => n - (intOf iv).toNat)
  case atStart => exact ⟨0, rfl, Nat.zero_le _, rfl, HG2.out⟩
  case round =>
    obtain ⟨i, rfl, hi, hany, hgr⟩ := hrel
    by_cases hlt : i < n
    · have d1 : decide ((i : Int) < (n : Int)) = true := decide_eq_true (by omega)
      have d2 : decide (i < n) = true := decide_eq_true hlt
      have i1 : (i : Int) < (n : Int) := by omega
      obtain ⟨ad1, rfl, a0, a1, a2⟩ := at_T43 (HR.out wr hgr) (i : Int) (by omega) (by rw [← HN.out]; exact i1)
      have hat := rdP_at (l := l) (i := i) (by rw [← HN.out]; exact hlt)
      obtain ⟨e, he⟩ : ∃ e, e = rd_T43 l (i : Int) := ⟨_, rfl⟩
      rw [← he] at hat
      rw [Int.toNat_natCast, ← he] at a0 a1 a2
      have wi : IntKind.i64.wrap ((i : Int) + 1) = (i : Int) + 1 := IntWalk.i64_in _ (by omega)
      have HAT := Lib.hid hat
      have HANY := Lib.hid hany
      have HGR := Lib.hid hgr
      have HP := Lib.hid (HOK.out e (List.mem_of_getElem? hat))
      clear hany hat he hgr
      obtain ⟨f0, f1, f2⟩ := e
      simp only at a0 a1 a2
      have HA := Lib.hid (fun wx (h : Grew wr wx) => And.intro (pw_cell_below h a0) (pw_cell_below h a1))
      clear a0 a1 a2
      obtain ⟨fb, hfb⟩ : ∃ fb : Bool, fb = farP N ⟨f0, f1, f2⟩ := ⟨_, rfl⟩
      have HFB := Lib.hid hfb
      cases f0 with
      | false =>
        clear hfb
        go_wp2_with fail
        apply region_grew [Is _, Is _, Is _, Is _, Is _, Is _, Is undef, Is undef, Is undef, Is undef, Is undef, Is undef, Is undef, Is undef, Is undef, Is undef, Is undef, Is undef, Is undef, Is undef] [([(2, none)], none), ([(8, none)], none), ([(28, some 0), (29, some 1)], none), ([(30, some 2)], none), ([(31, some 3)], none), ([(32, some 4)], none), ([(0, none), (33, some 5)], some (33, true)), ([(34, some 6), (33, some 5)], some (33, true)), ([(35, some 7), (33, some 5)], some (33, true)), ([(36, some 8), (33, some 5)], some (33, true)), ([(2, none), (37, some 9)], some (37, false)), ([(8, none), (37, some 9)], some (37, false)), ([(38, some 10), (39, some 11), (37, some 9)], some (37, false)), ([(40, some 12), (37, some 9)], some (37, false)), ([(41, some 13), (37, some 9)], some (37, false)), ([(0, none), (37, some 9)], some (37, false)), ([(43, some 15), (37, some 9)], some (37, false)), ([(44, some 16), (37, some 9)], some (37, false)), ([(1, none), (37, some 9)], some (37, false)), ([(45, some 17), (46, some 18), (37, some 9)], some (37, false))] [(28, 0), (29, 1), (30, 2), (31, 3), (32, 4), (33, 5), (34, 6), (35, 7), (36, 8), (37, 9), (38, 10), (39, 11), (40, 12), (41, 13), (42, 14), (43, 15), (44, 16), (45, 17), (46, 18), (47, 19)] rfl (by kernel_rfl) (by kernel_rfl) (show Stable Grew _ from ⟨Is.stable _, Is.stable _, Is.stable _, Is.stable _, Is.stable _, Is.stable _, Is.stable _, Is.stable _, Is.stable _, Is.stable _, Is.stable _, Is.stable _, Is.stable _, Is.stable _, Is.stable _, Is.stable _, Is.stable _, Is.stable _, Is.stable _, Is.stable _, trivial⟩)
        · show OpsHold _ _ _ _ _ _ _ _ _
          refine ⟨fun a_ wx hR hD K hK => ?_, ?_⟩
          · have hG : Grew wr wx := (Grew.drew _).trans hR
            simp [Deps, Dep, at_, Is] at hD
            go_simp
            exact hK _ _ (Grew.refl _) rfl
          refine ⟨fun a_ wx hR hD K hK => ?_, ?_⟩
          · have hG : Grew wr wx := (Grew.drew _).trans hR
            simp [Deps, Dep, at_, Is] at hD
            go_simp
            exact hK _ _ (Grew.refl _) rfl
          refine ⟨fun a_ wx hR hD K hK => ?_, ?_⟩
          · have hG : Grew wr wx := (Grew.drew _).trans hR
            simp [Deps, Dep, at_, Is] at hD
            obtain ⟨hd0, hd1⟩ := hD
            go_simp
            exact hK _ _ (Grew.refl _) rfl
          refine ⟨fun a_ wx hR hD K hK => ?_, ?_⟩
          · have hG : Grew wr wx := (Grew.drew _).trans hR
            simp [Deps, Dep, at_, Is] at hD
            go_simp
            exact hK _ _ (Grew.refl _) rfl
          refine ⟨fun a_ wx hR hD K hK => ?_, ?_⟩
          · have hG : Grew wr wx := (Grew.drew _).trans hR
            simp [Deps, Dep, at_, Is] at hD
            obtain ⟨e0, e1⟩ := HA.out wx hG
            go_simp
            exact hK _ _ (Grew.refl _) rfl
          refine ⟨fun a_ wx hR hD K hK => ?_, ?_⟩
          · have hG : Grew wr wx := (Grew.drew _).trans hR
            simp [Deps, Dep, at_, Is] at hD
            go_simp
            exact hK _ _ (Grew.refl _) rfl
          refine ⟨fun a_ wx hR hD => ⟨fun hgd K hK => ?_, fun hgd => ?_⟩, ?_⟩
          · have hG : Grew wr wx := (Grew.drew _).trans hR
            exfalso
            simp [Deps, Dep, at_, Is] at hD
            first | (simp_all; done) | (simp_all [undef]; done)
          · exact rfl
          refine ⟨fun a_ wx hR hD => ⟨fun hgd K hK => ?_, fun hgd => ?_⟩, ?_⟩
          · have hG : Grew wr wx := (Grew.drew _).trans hR
            exfalso
            simp [Deps, Dep, at_, Is] at hD
            first | (simp_all; done) | (simp_all [undef]; done)
          · exact rfl
          refine ⟨fun a_ wx hR hD => ⟨fun hgd K hK => ?_, fun hgd => ?_⟩, ?_⟩
          · have hG : Grew wr wx := (Grew.drew _).trans hR
            exfalso
            simp [Deps, Dep, at_, Is] at hD
            first | (simp_all; done) | (simp_all [undef]; done)
          · exact rfl
          refine ⟨fun a_ wx hR hD => ⟨fun hgd K hK => ?_, fun hgd => ?_⟩, ?_⟩
          · have hG : Grew wr wx := (Grew.drew _).trans hR
            exfalso
            simp [Deps, Dep, at_, Is] at hD
            first | (simp_all; done) | (simp_all [undef]; done)
          · exact rfl
          refine ⟨fun a_ wx hR hD => ⟨fun hgd K hK => ?_, fun hgd => ?_⟩, ?_⟩
          · have hG : Grew wr wx := (Grew.drew _).trans hR
            exfalso
            simp [Deps, Dep, at_, Is] at hD
            first | (simp_all; done) | (simp_all [undef]; done)
          · exact rfl
          refine ⟨fun a_ wx hR hD => ⟨fun hgd K hK => ?_, fun hgd => ?_⟩, ?_⟩
          · have hG : Grew wr wx := (Grew.drew _).trans hR
            exfalso
            simp [Deps, Dep, at_, Is] at hD
            first | (simp_all; done) | (simp_all [undef]; done)
          · exact rfl
          refine ⟨fun a_ wx hR hD => ⟨fun hgd K hK => ?_, fun hgd => ?_⟩, ?_⟩
          · have hG : Grew wr wx := (Grew.drew _).trans hR
            exfalso
            simp [Deps, Dep, at_, Is] at hD
            first | (simp_all; done) | (simp_all [undef]; done)
          · exact rfl
          refine ⟨fun a_ wx hR hD => ⟨fun hgd K hK => ?_, fun hgd => ?_⟩, ?_⟩
          · have hG : Grew wr wx := (Grew.drew _).trans hR
            exfalso
            simp [Deps, Dep, at_, Is] at hD
            first | (simp_all; done) | (simp_all [undef]; done)
          · exact rfl
          refine ⟨fun a_ wx hR hD => ⟨fun hgd K hK => ?_, fun hgd => ?_⟩, ?_⟩
          · have hG : Grew wr wx := (Grew.drew _).trans hR
            exfalso
            simp [Deps, Dep, at_, Is] at hD
            first | (simp_all; done) | (simp_all [undef]; done)
          · exact rfl
          refine ⟨fun a_ wx hR hD => ⟨fun hgd K hK => ?_, fun hgd => ?_⟩, ?_⟩
          · have hG : Grew wr wx := (Grew.drew _).trans hR
            exfalso
            simp [Deps, Dep, at_, Is] at hD
            first | (simp_all; done) | (simp_all [undef]; done)
          · exact rfl
          refine ⟨fun a_ wx hR hD => ⟨fun hgd K hK => ?_, fun hgd => ?_⟩, ?_⟩
          · have hG : Grew wr wx := (Grew.drew _).trans hR
            exfalso
            simp [Deps, Dep, at_, Is] at hD
            first | (simp_all; done) | (simp_all [undef]; done)
          · exact rfl
          refine ⟨fun a_ wx hR hD => ⟨fun hgd K hK => ?_, fun hgd => ?_⟩, ?_⟩
          · have hG : Grew wr wx := (Grew.drew _).trans hR
            exfalso
            simp [Deps, Dep, at_, Is] at hD
            first | (simp_all; done) | (simp_all [undef]; done)
          · exact rfl
          refine ⟨fun a_ wx hR hD => ⟨fun hgd K hK => ?_, fun hgd => ?_⟩, ?_⟩
          · have hG : Grew wr wx := (Grew.drew _).trans hR
            exfalso
            simp [Deps, Dep, at_, Is] at hD
            first | (simp_all; done) | (simp_all [undef]; done)
          · exact rfl
          refine ⟨fun a_ wx hR hD => ⟨fun hgd K hK => ?_, fun hgd => ?_⟩, ?_⟩
          · have hG : Grew wr wx := (Grew.drew _).trans hR
            exfalso
            simp [Deps, Dep, at_, Is] at hD
            first | (simp_all; done) | (simp_all [undef]; done)
          · exact rfl
          trivial
        · show EndHold _ _ _ _ _ _ _
          refine end_all (xs := [_, _, _, _, _, _, _, _, _, _, _, _, _, _, _, _, _, _, _, _]) ⟨rfl, rfl, rfl, rfl, rfl, rfl, rfl, rfl, rfl, rfl, rfl, rfl, rfl, rfl, rfl, rfl, rfl, rfl, rfl, rfl, trivial⟩ ?_
          rintro w5 hR1 -
          refine ⟨?_⟩
          have hG_w5 : Grew wr w5 := (Grew.drew _).trans hR1
          clear hR1
          simp only [Act.put, List.setIfInBounds_toArray, List.set_cons_succ, List.set_cons_zero, dropN, putEach]
          go_wp2_with fail
          go_roundw
          case rel => exact ⟨i + 1, by go_num, by omega, any_take HAT.out HANY.out rfl, Grew.trans HGR.out hG_w5⟩
          case measure => simp [intOf]; omega
      | true =>
        have hp := HP.out rfl
        rcases Nat.eq_zero_or_pos T with hT0 | hT0
        · have hz0 : ((T : Int) == 0) = true := by simp [hT0]
          have hz1 : (T == 0) = true := by simp [hT0]
          have hN0 : N = 0 := by rw [HN2.out, hT0]; exact Nat.div_eq_of_lt (by omega)
          have hRe := Lib.hid (show R = (⟨#[]⟩, 9) from by
            rw [HRE.out, any_at HAT.out (by simp [farP, hN0]; exact hp), if_pos rfl])
          clear hfb hp hN0 hT0
          go_wp2_with fail
          apply region_grew [Is _, Is _, Is _, Is _, Is _, Is _, Is _, Is _, Is _, Is _, Is undef, Is undef, Is undef, Is undef, Is undef, Is undef, Is undef, Is undef, Is undef, Is undef] [([(2, none)], none), ([(8, none)], none), ([(28, some 0), (29, some 1)], none), ([(30, some 2)], none), ([(31, some 3)], none), ([(32, some 4)], none), ([(0, none), (33, some 5)], some (33, true)), ([(34, some 6), (33, some 5)], some (33, true)), ([(35, some 7), (33, some 5)], some (33, true)), ([(36, some 8), (33, some 5)], some (33, true)), ([(2, none), (37, some 9)], some (37, false)), ([(8, none), (37, some 9)], some (37, false)), ([(38, some 10), (39, some 11), (37, some 9)], some (37, false)), ([(40, some 12), (37, some 9)], some (37, false)), ([(41, some 13), (37, some 9)], some (37, false)), ([(0, none), (37, some 9)], some (37, false)), ([(43, some 15), (37, some 9)], some (37, false)), ([(44, some 16), (37, some 9)], some (37, false)), ([(1, none), (37, some 9)], some (37, false)), ([(45, some 17), (46, some 18), (37, some 9)], some (37, false))] [(28, 0), (29, 1), (30, 2), (31, 3), (32, 4), (33, 5), (34, 6), (35, 7), (36, 8), (37, 9), (38, 10), (39, 11), (40, 12), (41, 13), (42, 14), (43, 15), (44, 16), (45, 17), (46, 18), (47, 19)] rfl (by kernel_rfl) (by kernel_rfl) (show Stable Grew _ from ⟨Is.stable _, Is.stable _, Is.stable _, Is.stable _, Is.stable _, Is.stable _, Is.stable _, Is.stable _, Is.stable _, Is.stable _, Is.stable _, Is.stable _, Is.stable _, Is.stable _, Is.stable _, Is.stable _, Is.stable _, Is.stable _, Is.stable _, Is.stable _, trivial⟩)
          · show OpsHold _ _ _ _ _ _ _ _ _
            refine ⟨fun a_ wx hR hD K hK => ?_, ?_⟩
            · have hG : Grew wr wx := (Grew.drew _).trans hR
              simp [Deps, Dep, at_, Is] at hD
              go_simp
              exact hK _ _ (Grew.refl _) rfl
            refine ⟨fun a_ wx hR hD K hK => ?_, ?_⟩
            · have hG : Grew wr wx := (Grew.drew _).trans hR
              simp [Deps, Dep, at_, Is] at hD
              go_simp
              exact hK _ _ (Grew.refl _) rfl
            refine ⟨fun a_ wx hR hD K hK => ?_, ?_⟩
            · have hG : Grew wr wx := (Grew.drew _).trans hR
              simp [Deps, Dep, at_, Is] at hD
              obtain ⟨hd0, hd1⟩ := hD
              go_simp
              exact hK _ _ (Grew.refl _) rfl
            refine ⟨fun a_ wx hR hD K hK => ?_, ?_⟩
            · have hG : Grew wr wx := (Grew.drew _).trans hR
              simp [Deps, Dep, at_, Is] at hD
              go_simp
              exact hK _ _ (Grew.refl _) rfl
            refine ⟨fun a_ wx hR hD K hK => ?_, ?_⟩
            · have hG : Grew wr wx := (Grew.drew _).trans hR
              simp [Deps, Dep, at_, Is] at hD
              obtain ⟨e0, e1⟩ := HA.out wx hG
              go_simp
              exact hK _ _ (Grew.refl _) rfl
            refine ⟨fun a_ wx hR hD K hK => ?_, ?_⟩
            · have hG : Grew wr wx := (Grew.drew _).trans hR
              simp [Deps, Dep, at_, Is] at hD
              go_simp
              exact hK _ _ (Grew.refl _) rfl
            refine ⟨fun a_ wx hR hD => ⟨fun hgd K hK => ?_, fun hgd => ?_⟩, ?_⟩
            · have hG : Grew wr wx := (Grew.drew _).trans hR
              clear hgd
              simp [Deps, Dep, at_, Is] at hD
              obtain ⟨hd0, hd1⟩ := hD
              go_simp
              exact hK _ _ (Grew.refl _) rfl
            · have hG : Grew wr wx := (Grew.drew _).trans hR
              exfalso
              simp [Deps, Dep, at_, Is] at hD
              first | (simp_all; done) | (simp_all [undef]; done)
            refine ⟨fun a_ wx hR hD => ⟨fun hgd K hK => ?_, fun hgd => ?_⟩, ?_⟩
            · have hG : Grew wr wx := (Grew.drew _).trans hR
              clear hgd
              simp [Deps, Dep, at_, Is] at hD
              obtain ⟨hd0, hd1⟩ := hD
              go_simp
              exact hK _ _ (Grew.refl _) rfl
            · have hG : Grew wr wx := (Grew.drew _).trans hR
              exfalso
              simp [Deps, Dep, at_, Is] at hD
              first | (simp_all; done) | (simp_all [undef]; done)
            refine ⟨fun a_ wx hR hD => ⟨fun hgd K hK => ?_, fun hgd => ?_⟩, ?_⟩
            · have hG : Grew wr wx := (Grew.drew _).trans hR
              clear hgd
              simp [Deps, Dep, at_, Is] at hD
              obtain ⟨hd0, hd1⟩ := hD
              go_simp
              exact hK _ _ (Grew.refl _) rfl
            · have hG : Grew wr wx := (Grew.drew _).trans hR
              exfalso
              simp [Deps, Dep, at_, Is] at hD
              first | (simp_all; done) | (simp_all [undef]; done)
            refine ⟨fun a_ wx hR hD => ⟨fun hgd K hK => ?_, fun hgd => ?_⟩, ?_⟩
            · have hG : Grew wr wx := (Grew.drew _).trans hR
              clear hgd
              simp [Deps, Dep, at_, Is] at hD
              obtain ⟨hd0, hd1⟩ := hD
              go_simp
              exact hK _ _ (Grew.refl _) rfl
            · have hG : Grew wr wx := (Grew.drew _).trans hR
              exfalso
              simp [Deps, Dep, at_, Is] at hD
              first | (simp_all; done) | (simp_all [undef]; done)
            refine ⟨fun a_ wx hR hD => ⟨fun hgd K hK => ?_, fun hgd => ?_⟩, ?_⟩
            · have hG : Grew wr wx := (Grew.drew _).trans hR
              exfalso
              simp [Deps, Dep, at_, Is] at hD
              first | (simp_all; done) | (simp_all [undef]; done)
            · exact rfl
            refine ⟨fun a_ wx hR hD => ⟨fun hgd K hK => ?_, fun hgd => ?_⟩, ?_⟩
            · have hG : Grew wr wx := (Grew.drew _).trans hR
              exfalso
              simp [Deps, Dep, at_, Is] at hD
              first | (simp_all; done) | (simp_all [undef]; done)
            · exact rfl
            refine ⟨fun a_ wx hR hD => ⟨fun hgd K hK => ?_, fun hgd => ?_⟩, ?_⟩
            · have hG : Grew wr wx := (Grew.drew _).trans hR
              exfalso
              simp [Deps, Dep, at_, Is] at hD
              first | (simp_all; done) | (simp_all [undef]; done)
            · exact rfl
            refine ⟨fun a_ wx hR hD => ⟨fun hgd K hK => ?_, fun hgd => ?_⟩, ?_⟩
            · have hG : Grew wr wx := (Grew.drew _).trans hR
              exfalso
              simp [Deps, Dep, at_, Is] at hD
              first | (simp_all; done) | (simp_all [undef]; done)
            · exact rfl
            refine ⟨fun a_ wx hR hD => ⟨fun hgd K hK => ?_, fun hgd => ?_⟩, ?_⟩
            · have hG : Grew wr wx := (Grew.drew _).trans hR
              exfalso
              simp [Deps, Dep, at_, Is] at hD
              first | (simp_all; done) | (simp_all [undef]; done)
            · exact rfl
            refine ⟨fun a_ wx hR hD => ⟨fun hgd K hK => ?_, fun hgd => ?_⟩, ?_⟩
            · have hG : Grew wr wx := (Grew.drew _).trans hR
              exfalso
              simp [Deps, Dep, at_, Is] at hD
              first | (simp_all; done) | (simp_all [undef]; done)
            · exact rfl
            refine ⟨fun a_ wx hR hD => ⟨fun hgd K hK => ?_, fun hgd => ?_⟩, ?_⟩
            · have hG : Grew wr wx := (Grew.drew _).trans hR
              exfalso
              simp [Deps, Dep, at_, Is] at hD
              first | (simp_all; done) | (simp_all [undef]; done)
            · exact rfl
            refine ⟨fun a_ wx hR hD => ⟨fun hgd K hK => ?_, fun hgd => ?_⟩, ?_⟩
            · have hG : Grew wr wx := (Grew.drew _).trans hR
              exfalso
              simp [Deps, Dep, at_, Is] at hD
              first | (simp_all; done) | (simp_all [undef]; done)
            · exact rfl
            refine ⟨fun a_ wx hR hD => ⟨fun hgd K hK => ?_, fun hgd => ?_⟩, ?_⟩
            · have hG : Grew wr wx := (Grew.drew _).trans hR
              exfalso
              simp [Deps, Dep, at_, Is] at hD
              first | (simp_all; done) | (simp_all [undef]; done)
            · exact rfl
            refine ⟨fun a_ wx hR hD => ⟨fun hgd K hK => ?_, fun hgd => ?_⟩, ?_⟩
            · have hG : Grew wr wx := (Grew.drew _).trans hR
              exfalso
              simp [Deps, Dep, at_, Is] at hD
              first | (simp_all; done) | (simp_all [undef]; done)
            · exact rfl
            trivial
          · show EndHold _ _ _ _ _ _ _
            refine end_all (xs := [_, _, _, _, _, _, _, _, _, _, _, _, _, _, _, _, _, _, _, _]) ⟨rfl, rfl, rfl, rfl, rfl, rfl, rfl, rfl, rfl, rfl, rfl, rfl, rfl, rfl, rfl, rfl, rfl, rfl, rfl, rfl, trivial⟩ ?_
            rintro w5 hR1 -
            refine ⟨?_⟩
            have hG_w5 : Grew wr w5 := (Grew.drew _).trans hR1
            clear hR1
            simp only [Act.put, List.setIfInBounds_toArray, List.set_cons_succ, List.set_cons_zero, dropN, putEach]
            go_wp2_with fail
            go_ret2
            rw [hRe.out]
            exact ⟨_, rfl, rfl, Grew.trans HGR.out hG_w5⟩
        · have hz0 : ((T : Int) == 0) = false := by simp; omega
          have hz1 : (T == 0) = false := by simp; omega
          have hfr := far_ref (f1 := f1) hs1 hT0 HN2.out
          rw [← HD.out] at hfr
          by_cases hf : (N : Int) ≤ f1
          · have d3 : decide (D < f1) = true := decide_eq_true (hfr.1 hf)
            have hRe := Lib.hid (show R = (⟨#[]⟩, 9) from by
              rw [HRE.out, any_at HAT.out (by simp [farP]; exact hf), if_pos rfl])
            clear hfb hp hT0 hfr
            go_wp2_with fail
            apply region_grew [Is _, Is _, Is _, Is _, Is _, Is _, Is _, Is _, Is _, Is _, Is _, Is _, Is _, Is _, Is _, Is _, Is _, Is _, Is _, Is _] [([(2, none)], none), ([(8, none)], none), ([(28, some 0), (29, some 1)], none), ([(30, some 2)], none), ([(31, some 3)], none), ([(32, some 4)], none), ([(0, none), (33, some 5)], some (33, true)), ([(34, some 6), (33, some 5)], some (33, true)), ([(35, some 7), (33, some 5)], some (33, true)), ([(36, some 8), (33, some 5)], some (33, true)), ([(2, none), (37, some 9)], some (37, false)), ([(8, none), (37, some 9)], some (37, false)), ([(38, some 10), (39, some 11), (37, some 9)], some (37, false)), ([(40, some 12), (37, some 9)], some (37, false)), ([(41, some 13), (37, some 9)], some (37, false)), ([(0, none), (37, some 9)], some (37, false)), ([(43, some 15), (37, some 9)], some (37, false)), ([(44, some 16), (37, some 9)], some (37, false)), ([(1, none), (37, some 9)], some (37, false)), ([(45, some 17), (46, some 18), (37, some 9)], some (37, false))] [(28, 0), (29, 1), (30, 2), (31, 3), (32, 4), (33, 5), (34, 6), (35, 7), (36, 8), (37, 9), (38, 10), (39, 11), (40, 12), (41, 13), (42, 14), (43, 15), (44, 16), (45, 17), (46, 18), (47, 19)] rfl (by kernel_rfl) (by kernel_rfl) (show Stable Grew _ from ⟨Is.stable _, Is.stable _, Is.stable _, Is.stable _, Is.stable _, Is.stable _, Is.stable _, Is.stable _, Is.stable _, Is.stable _, Is.stable _, Is.stable _, Is.stable _, Is.stable _, Is.stable _, Is.stable _, Is.stable _, Is.stable _, Is.stable _, Is.stable _, trivial⟩)
            · show OpsHold _ _ _ _ _ _ _ _ _
              refine ⟨fun a_ wx hR hD K hK => ?_, ?_⟩
              · have hG : Grew wr wx := (Grew.drew _).trans hR
                simp [Deps, Dep, at_, Is] at hD
                go_simp
                exact hK _ _ (Grew.refl _) rfl
              refine ⟨fun a_ wx hR hD K hK => ?_, ?_⟩
              · have hG : Grew wr wx := (Grew.drew _).trans hR
                simp [Deps, Dep, at_, Is] at hD
                go_simp
                exact hK _ _ (Grew.refl _) rfl
              refine ⟨fun a_ wx hR hD K hK => ?_, ?_⟩
              · have hG : Grew wr wx := (Grew.drew _).trans hR
                simp [Deps, Dep, at_, Is] at hD
                obtain ⟨hd0, hd1⟩ := hD
                go_simp
                exact hK _ _ (Grew.refl _) rfl
              refine ⟨fun a_ wx hR hD K hK => ?_, ?_⟩
              · have hG : Grew wr wx := (Grew.drew _).trans hR
                simp [Deps, Dep, at_, Is] at hD
                go_simp
                exact hK _ _ (Grew.refl _) rfl
              refine ⟨fun a_ wx hR hD K hK => ?_, ?_⟩
              · have hG : Grew wr wx := (Grew.drew _).trans hR
                simp [Deps, Dep, at_, Is] at hD
                obtain ⟨e0, e1⟩ := HA.out wx hG
                go_simp
                exact hK _ _ (Grew.refl _) rfl
              refine ⟨fun a_ wx hR hD K hK => ?_, ?_⟩
              · have hG : Grew wr wx := (Grew.drew _).trans hR
                simp [Deps, Dep, at_, Is] at hD
                go_simp
                exact hK _ _ (Grew.refl _) rfl
              refine ⟨fun a_ wx hR hD => ⟨fun hgd K hK => ?_, fun hgd => ?_⟩, ?_⟩
              · have hG : Grew wr wx := (Grew.drew _).trans hR
                clear hgd
                simp [Deps, Dep, at_, Is] at hD
                obtain ⟨hd0, hd1⟩ := hD
                go_simp
                exact hK _ _ (Grew.refl _) rfl
              · have hG : Grew wr wx := (Grew.drew _).trans hR
                exfalso
                simp [Deps, Dep, at_, Is] at hD
                first | (simp_all; done) | (simp_all [undef]; done)
              refine ⟨fun a_ wx hR hD => ⟨fun hgd K hK => ?_, fun hgd => ?_⟩, ?_⟩
              · have hG : Grew wr wx := (Grew.drew _).trans hR
                clear hgd
                simp [Deps, Dep, at_, Is] at hD
                obtain ⟨hd0, hd1⟩ := hD
                go_simp
                exact hK _ _ (Grew.refl _) rfl
              · have hG : Grew wr wx := (Grew.drew _).trans hR
                exfalso
                simp [Deps, Dep, at_, Is] at hD
                first | (simp_all; done) | (simp_all [undef]; done)
              refine ⟨fun a_ wx hR hD => ⟨fun hgd K hK => ?_, fun hgd => ?_⟩, ?_⟩
              · have hG : Grew wr wx := (Grew.drew _).trans hR
                clear hgd
                simp [Deps, Dep, at_, Is] at hD
                obtain ⟨hd0, hd1⟩ := hD
                go_simp
                exact hK _ _ (Grew.refl _) rfl
              · have hG : Grew wr wx := (Grew.drew _).trans hR
                exfalso
                simp [Deps, Dep, at_, Is] at hD
                first | (simp_all; done) | (simp_all [undef]; done)
              refine ⟨fun a_ wx hR hD => ⟨fun hgd K hK => ?_, fun hgd => ?_⟩, ?_⟩
              · have hG : Grew wr wx := (Grew.drew _).trans hR
                clear hgd
                simp [Deps, Dep, at_, Is] at hD
                obtain ⟨hd0, hd1⟩ := hD
                go_simp
                exact hK _ _ (Grew.refl _) rfl
              · have hG : Grew wr wx := (Grew.drew _).trans hR
                exfalso
                simp [Deps, Dep, at_, Is] at hD
                first | (simp_all; done) | (simp_all [undef]; done)
              refine ⟨fun a_ wx hR hD => ⟨fun hgd K hK => ?_, fun hgd => ?_⟩, ?_⟩
              · have hG : Grew wr wx := (Grew.drew _).trans hR
                clear hgd
                simp [Deps, Dep, at_, Is] at hD
                obtain ⟨hd0, hd1⟩ := hD
                go_simp
                exact hK _ _ (Grew.refl _) rfl
              · have hG : Grew wr wx := (Grew.drew _).trans hR
                exfalso
                simp [Deps, Dep, at_, Is] at hD
                first | (simp_all; done) | (simp_all [undef]; done)
              refine ⟨fun a_ wx hR hD => ⟨fun hgd K hK => ?_, fun hgd => ?_⟩, ?_⟩
              · have hG : Grew wr wx := (Grew.drew _).trans hR
                clear hgd
                simp [Deps, Dep, at_, Is] at hD
                obtain ⟨hd0, hd1⟩ := hD
                go_simp
                exact hK _ _ (Grew.refl _) rfl
              · have hG : Grew wr wx := (Grew.drew _).trans hR
                exfalso
                simp [Deps, Dep, at_, Is] at hD
                first | (simp_all; done) | (simp_all [undef]; done)
              refine ⟨fun a_ wx hR hD => ⟨fun hgd K hK => ?_, fun hgd => ?_⟩, ?_⟩
              · have hG : Grew wr wx := (Grew.drew _).trans hR
                clear hgd
                simp [Deps, Dep, at_, Is] at hD
                obtain ⟨hd0, hd1, hd2⟩ := hD
                go_simp
                exact hK _ _ (Grew.refl _) rfl
              · have hG : Grew wr wx := (Grew.drew _).trans hR
                exfalso
                simp [Deps, Dep, at_, Is] at hD
                first | (simp_all; done) | (simp_all [undef]; done)
              refine ⟨fun a_ wx hR hD => ⟨fun hgd K hK => ?_, fun hgd => ?_⟩, ?_⟩
              · have hG : Grew wr wx := (Grew.drew _).trans hR
                clear hgd
                simp [Deps, Dep, at_, Is] at hD
                obtain ⟨hd0, hd1⟩ := hD
                go_simp
                exact hK _ _ (Grew.refl _) rfl
              · have hG : Grew wr wx := (Grew.drew _).trans hR
                exfalso
                simp [Deps, Dep, at_, Is] at hD
                first | (simp_all; done) | (simp_all [undef]; done)
              refine ⟨fun a_ wx hR hD => ⟨fun hgd K hK => ?_, fun hgd => ?_⟩, ?_⟩
              · have hG : Grew wr wx := (Grew.drew _).trans hR
                clear hgd
                simp [Deps, Dep, at_, Is] at hD
                obtain ⟨e0, e1⟩ := HA.out wx hG
                go_simp
                exact hK _ _ (Grew.refl _) rfl
              · have hG : Grew wr wx := (Grew.drew _).trans hR
                exfalso
                simp [Deps, Dep, at_, Is] at hD
                first | (simp_all; done) | (simp_all [undef]; done)
              refine ⟨fun a_ wx hR hD => ⟨fun hgd K hK => ?_, fun hgd => ?_⟩, ?_⟩
              · have hG : Grew wr wx := (Grew.drew _).trans hR
                clear hgd
                simp [Deps, Dep, at_, Is] at hD
                obtain ⟨hd0, hd1⟩ := hD
                go_simp
                exact hK _ _ (Grew.refl _) rfl
              · have hG : Grew wr wx := (Grew.drew _).trans hR
                exfalso
                simp [Deps, Dep, at_, Is] at hD
                first | (simp_all; done) | (simp_all [undef]; done)
              refine ⟨fun a_ wx hR hD => ⟨fun hgd K hK => ?_, fun hgd => ?_⟩, ?_⟩
              · have hG : Grew wr wx := (Grew.drew _).trans hR
                clear hgd
                simp [Deps, Dep, at_, Is] at hD
                obtain ⟨hd0, hd1⟩ := hD
                go_simp
                exact hK _ _ (Grew.refl _) rfl
              · have hG : Grew wr wx := (Grew.drew _).trans hR
                exfalso
                simp [Deps, Dep, at_, Is] at hD
                first | (simp_all; done) | (simp_all [undef]; done)
              refine ⟨fun a_ wx hR hD => ⟨fun hgd K hK => ?_, fun hgd => ?_⟩, ?_⟩
              · have hG : Grew wr wx := (Grew.drew _).trans hR
                clear hgd
                simp [Deps, Dep, at_, Is] at hD
                obtain ⟨hd0, hd1⟩ := hD
                go_simp
                exact hK _ _ (Grew.refl _) rfl
              · have hG : Grew wr wx := (Grew.drew _).trans hR
                exfalso
                simp [Deps, Dep, at_, Is] at hD
                first | (simp_all; done) | (simp_all [undef]; done)
              refine ⟨fun a_ wx hR hD => ⟨fun hgd K hK => ?_, fun hgd => ?_⟩, ?_⟩
              · have hG : Grew wr wx := (Grew.drew _).trans hR
                clear hgd
                simp [Deps, Dep, at_, Is] at hD
                obtain ⟨hd0, hd1⟩ := hD
                go_simp
                exact hK _ _ (Grew.refl _) rfl
              · have hG : Grew wr wx := (Grew.drew _).trans hR
                exfalso
                simp [Deps, Dep, at_, Is] at hD
                first | (simp_all; done) | (simp_all [undef]; done)
              refine ⟨fun a_ wx hR hD => ⟨fun hgd K hK => ?_, fun hgd => ?_⟩, ?_⟩
              · have hG : Grew wr wx := (Grew.drew _).trans hR
                clear hgd
                simp [Deps, Dep, at_, Is] at hD
                obtain ⟨hd0, hd1, hd2⟩ := hD
                go_simp
                rw [if_neg (show ¬ s = 0 by omega)]
                go_simp
                exact hK _ _ (Grew.refl _) rfl
              · have hG : Grew wr wx := (Grew.drew _).trans hR
                exfalso
                simp [Deps, Dep, at_, Is] at hD
                first | (simp_all; done) | (simp_all [undef]; done)
              trivial
            · show EndHold _ _ _ _ _ _ _
              refine end_all (xs := [_, _, _, _, _, _, _, _, _, _, _, _, _, _, _, _, _, _, _, _]) ⟨rfl, rfl, rfl, rfl, rfl, rfl, rfl, rfl, rfl, rfl, rfl, rfl, rfl, rfl, rfl, rfl, rfl, rfl, rfl, rfl, trivial⟩ ?_
              rintro w5 hR1 -
              refine ⟨?_⟩
              have hG_w5 : Grew wr w5 := (Grew.drew _).trans hR1
              clear hR1
              simp only [Act.put, List.setIfInBounds_toArray, List.set_cons_succ, List.set_cons_zero, dropN, putEach]
              go_wp2_with fail
              go_ret2
              rw [hRe.out]
              exact ⟨_, rfl, rfl, Grew.trans HGR.out hG_w5⟩
          · have d3 : decide (D < f1) = false := decide_eq_false (fun h => hf (hfr.2 h))
            have HNF := Lib.hid hf
            clear hfb hp hT0 hfr hf
            go_wp2_with fail
            apply region_grew [Is _, Is _, Is _, Is _, Is _, Is _, Is _, Is _, Is _, Is _, Is _, Is _, Is _, Is _, Is _, Is _, Is _, Is _, Is _, Is _] [([(2, none)], none), ([(8, none)], none), ([(28, some 0), (29, some 1)], none), ([(30, some 2)], none), ([(31, some 3)], none), ([(32, some 4)], none), ([(0, none), (33, some 5)], some (33, true)), ([(34, some 6), (33, some 5)], some (33, true)), ([(35, some 7), (33, some 5)], some (33, true)), ([(36, some 8), (33, some 5)], some (33, true)), ([(2, none), (37, some 9)], some (37, false)), ([(8, none), (37, some 9)], some (37, false)), ([(38, some 10), (39, some 11), (37, some 9)], some (37, false)), ([(40, some 12), (37, some 9)], some (37, false)), ([(41, some 13), (37, some 9)], some (37, false)), ([(0, none), (37, some 9)], some (37, false)), ([(43, some 15), (37, some 9)], some (37, false)), ([(44, some 16), (37, some 9)], some (37, false)), ([(1, none), (37, some 9)], some (37, false)), ([(45, some 17), (46, some 18), (37, some 9)], some (37, false))] [(28, 0), (29, 1), (30, 2), (31, 3), (32, 4), (33, 5), (34, 6), (35, 7), (36, 8), (37, 9), (38, 10), (39, 11), (40, 12), (41, 13), (42, 14), (43, 15), (44, 16), (45, 17), (46, 18), (47, 19)] rfl (by kernel_rfl) (by kernel_rfl) (show Stable Grew _ from ⟨Is.stable _, Is.stable _, Is.stable _, Is.stable _, Is.stable _, Is.stable _, Is.stable _, Is.stable _, Is.stable _, Is.stable _, Is.stable _, Is.stable _, Is.stable _, Is.stable _, Is.stable _, Is.stable _, Is.stable _, Is.stable _, Is.stable _, Is.stable _, trivial⟩)
            · show OpsHold _ _ _ _ _ _ _ _ _
              refine ⟨fun a_ wx hR hD K hK => ?_, ?_⟩
              · have hG : Grew wr wx := (Grew.drew _).trans hR
                simp [Deps, Dep, at_, Is] at hD
                go_simp
                exact hK _ _ (Grew.refl _) rfl
              refine ⟨fun a_ wx hR hD K hK => ?_, ?_⟩
              · have hG : Grew wr wx := (Grew.drew _).trans hR
                simp [Deps, Dep, at_, Is] at hD
                go_simp
                exact hK _ _ (Grew.refl _) rfl
              refine ⟨fun a_ wx hR hD K hK => ?_, ?_⟩
              · have hG : Grew wr wx := (Grew.drew _).trans hR
                simp [Deps, Dep, at_, Is] at hD
                obtain ⟨hd0, hd1⟩ := hD
                go_simp
                exact hK _ _ (Grew.refl _) rfl
              refine ⟨fun a_ wx hR hD K hK => ?_, ?_⟩
              · have hG : Grew wr wx := (Grew.drew _).trans hR
                simp [Deps, Dep, at_, Is] at hD
                go_simp
                exact hK _ _ (Grew.refl _) rfl
              refine ⟨fun a_ wx hR hD K hK => ?_, ?_⟩
              · have hG : Grew wr wx := (Grew.drew _).trans hR
                simp [Deps, Dep, at_, Is] at hD
                obtain ⟨e0, e1⟩ := HA.out wx hG
                go_simp
                exact hK _ _ (Grew.refl _) rfl
              refine ⟨fun a_ wx hR hD K hK => ?_, ?_⟩
              · have hG : Grew wr wx := (Grew.drew _).trans hR
                simp [Deps, Dep, at_, Is] at hD
                go_simp
                exact hK _ _ (Grew.refl _) rfl
              refine ⟨fun a_ wx hR hD => ⟨fun hgd K hK => ?_, fun hgd => ?_⟩, ?_⟩
              · have hG : Grew wr wx := (Grew.drew _).trans hR
                clear hgd
                simp [Deps, Dep, at_, Is] at hD
                obtain ⟨hd0, hd1⟩ := hD
                go_simp
                exact hK _ _ (Grew.refl _) rfl
              · have hG : Grew wr wx := (Grew.drew _).trans hR
                exfalso
                simp [Deps, Dep, at_, Is] at hD
                first | (simp_all; done) | (simp_all [undef]; done)
              refine ⟨fun a_ wx hR hD => ⟨fun hgd K hK => ?_, fun hgd => ?_⟩, ?_⟩
              · have hG : Grew wr wx := (Grew.drew _).trans hR
                clear hgd
                simp [Deps, Dep, at_, Is] at hD
                obtain ⟨hd0, hd1⟩ := hD
                go_simp
                exact hK _ _ (Grew.refl _) rfl
              · have hG : Grew wr wx := (Grew.drew _).trans hR
                exfalso
                simp [Deps, Dep, at_, Is] at hD
                first | (simp_all; done) | (simp_all [undef]; done)
              refine ⟨fun a_ wx hR hD => ⟨fun hgd K hK => ?_, fun hgd => ?_⟩, ?_⟩
              · have hG : Grew wr wx := (Grew.drew _).trans hR
                clear hgd
                simp [Deps, Dep, at_, Is] at hD
                obtain ⟨hd0, hd1⟩ := hD
                go_simp
                exact hK _ _ (Grew.refl _) rfl
              · have hG : Grew wr wx := (Grew.drew _).trans hR
                exfalso
                simp [Deps, Dep, at_, Is] at hD
                first | (simp_all; done) | (simp_all [undef]; done)
              refine ⟨fun a_ wx hR hD => ⟨fun hgd K hK => ?_, fun hgd => ?_⟩, ?_⟩
              · have hG : Grew wr wx := (Grew.drew _).trans hR
                clear hgd
                simp [Deps, Dep, at_, Is] at hD
                obtain ⟨hd0, hd1⟩ := hD
                go_simp
                exact hK _ _ (Grew.refl _) rfl
              · have hG : Grew wr wx := (Grew.drew _).trans hR
                exfalso
                simp [Deps, Dep, at_, Is] at hD
                first | (simp_all; done) | (simp_all [undef]; done)
              refine ⟨fun a_ wx hR hD => ⟨fun hgd K hK => ?_, fun hgd => ?_⟩, ?_⟩
              · have hG : Grew wr wx := (Grew.drew _).trans hR
                clear hgd
                simp [Deps, Dep, at_, Is] at hD
                obtain ⟨hd0, hd1⟩ := hD
                go_simp
                exact hK _ _ (Grew.refl _) rfl
              · have hG : Grew wr wx := (Grew.drew _).trans hR
                exfalso
                simp [Deps, Dep, at_, Is] at hD
                first | (simp_all; done) | (simp_all [undef]; done)
              refine ⟨fun a_ wx hR hD => ⟨fun hgd K hK => ?_, fun hgd => ?_⟩, ?_⟩
              · have hG : Grew wr wx := (Grew.drew _).trans hR
                clear hgd
                simp [Deps, Dep, at_, Is] at hD
                obtain ⟨hd0, hd1⟩ := hD
                go_simp
                exact hK _ _ (Grew.refl _) rfl
              · have hG : Grew wr wx := (Grew.drew _).trans hR
                exfalso
                simp [Deps, Dep, at_, Is] at hD
                first | (simp_all; done) | (simp_all [undef]; done)
              refine ⟨fun a_ wx hR hD => ⟨fun hgd K hK => ?_, fun hgd => ?_⟩, ?_⟩
              · have hG : Grew wr wx := (Grew.drew _).trans hR
                clear hgd
                simp [Deps, Dep, at_, Is] at hD
                obtain ⟨hd0, hd1, hd2⟩ := hD
                go_simp
                exact hK _ _ (Grew.refl _) rfl
              · have hG : Grew wr wx := (Grew.drew _).trans hR
                exfalso
                simp [Deps, Dep, at_, Is] at hD
                first | (simp_all; done) | (simp_all [undef]; done)
              refine ⟨fun a_ wx hR hD => ⟨fun hgd K hK => ?_, fun hgd => ?_⟩, ?_⟩
              · have hG : Grew wr wx := (Grew.drew _).trans hR
                clear hgd
                simp [Deps, Dep, at_, Is] at hD
                obtain ⟨hd0, hd1⟩ := hD
                go_simp
                exact hK _ _ (Grew.refl _) rfl
              · have hG : Grew wr wx := (Grew.drew _).trans hR
                exfalso
                simp [Deps, Dep, at_, Is] at hD
                first | (simp_all; done) | (simp_all [undef]; done)
              refine ⟨fun a_ wx hR hD => ⟨fun hgd K hK => ?_, fun hgd => ?_⟩, ?_⟩
              · have hG : Grew wr wx := (Grew.drew _).trans hR
                clear hgd
                simp [Deps, Dep, at_, Is] at hD
                obtain ⟨e0, e1⟩ := HA.out wx hG
                go_simp
                exact hK _ _ (Grew.refl _) rfl
              · have hG : Grew wr wx := (Grew.drew _).trans hR
                exfalso
                simp [Deps, Dep, at_, Is] at hD
                first | (simp_all; done) | (simp_all [undef]; done)
              refine ⟨fun a_ wx hR hD => ⟨fun hgd K hK => ?_, fun hgd => ?_⟩, ?_⟩
              · have hG : Grew wr wx := (Grew.drew _).trans hR
                clear hgd
                simp [Deps, Dep, at_, Is] at hD
                obtain ⟨hd0, hd1⟩ := hD
                go_simp
                exact hK _ _ (Grew.refl _) rfl
              · have hG : Grew wr wx := (Grew.drew _).trans hR
                exfalso
                simp [Deps, Dep, at_, Is] at hD
                first | (simp_all; done) | (simp_all [undef]; done)
              refine ⟨fun a_ wx hR hD => ⟨fun hgd K hK => ?_, fun hgd => ?_⟩, ?_⟩
              · have hG : Grew wr wx := (Grew.drew _).trans hR
                clear hgd
                simp [Deps, Dep, at_, Is] at hD
                obtain ⟨hd0, hd1⟩ := hD
                go_simp
                exact hK _ _ (Grew.refl _) rfl
              · have hG : Grew wr wx := (Grew.drew _).trans hR
                exfalso
                simp [Deps, Dep, at_, Is] at hD
                first | (simp_all; done) | (simp_all [undef]; done)
              refine ⟨fun a_ wx hR hD => ⟨fun hgd K hK => ?_, fun hgd => ?_⟩, ?_⟩
              · have hG : Grew wr wx := (Grew.drew _).trans hR
                clear hgd
                simp [Deps, Dep, at_, Is] at hD
                obtain ⟨hd0, hd1⟩ := hD
                go_simp
                exact hK _ _ (Grew.refl _) rfl
              · have hG : Grew wr wx := (Grew.drew _).trans hR
                exfalso
                simp [Deps, Dep, at_, Is] at hD
                first | (simp_all; done) | (simp_all [undef]; done)
              refine ⟨fun a_ wx hR hD => ⟨fun hgd K hK => ?_, fun hgd => ?_⟩, ?_⟩
              · have hG : Grew wr wx := (Grew.drew _).trans hR
                clear hgd
                simp [Deps, Dep, at_, Is] at hD
                obtain ⟨hd0, hd1⟩ := hD
                go_simp
                exact hK _ _ (Grew.refl _) rfl
              · have hG : Grew wr wx := (Grew.drew _).trans hR
                exfalso
                simp [Deps, Dep, at_, Is] at hD
                first | (simp_all; done) | (simp_all [undef]; done)
              refine ⟨fun a_ wx hR hD => ⟨fun hgd K hK => ?_, fun hgd => ?_⟩, ?_⟩
              · have hG : Grew wr wx := (Grew.drew _).trans hR
                clear hgd
                simp [Deps, Dep, at_, Is] at hD
                obtain ⟨hd0, hd1, hd2⟩ := hD
                go_simp
                rw [if_neg (show ¬ s = 0 by omega)]
                go_simp
                exact hK _ _ (Grew.refl _) rfl
              · have hG : Grew wr wx := (Grew.drew _).trans hR
                exfalso
                simp [Deps, Dep, at_, Is] at hD
                first | (simp_all; done) | (simp_all [undef]; done)
              trivial
            · show EndHold _ _ _ _ _ _ _
              refine end_all (xs := [_, _, _, _, _, _, _, _, _, _, _, _, _, _, _, _, _, _, _, _]) ⟨rfl, rfl, rfl, rfl, rfl, rfl, rfl, rfl, rfl, rfl, rfl, rfl, rfl, rfl, rfl, rfl, rfl, rfl, rfl, rfl, trivial⟩ ?_
              rintro w5 hR1 -
              refine ⟨?_⟩
              have hG_w5 : Grew wr w5 := (Grew.drew _).trans hR1
              clear hR1
              simp only [Act.put, List.setIfInBounds_toArray, List.set_cons_succ, List.set_cons_zero, dropN, putEach]
              go_wp2_with fail
              go_roundw
              case rel => exact ⟨i + 1, by go_num, by omega, any_take HAT.out HANY.out (by have := HNF.out; simp [farP]; omega), Grew.trans HGR.out hG_w5⟩
              case measure => simp [intOf]; omega
    · obtain rfl : n = i := by omega
      have d1 : decide ((n : Int) < (n : Int)) = false := decide_eq_false (by omega)
      have d2 : decide (n < n) = false := decide_eq_false (by omega)
      have hany2 : l.any (farP N) = false := by
        rw [HN.out, List.take_length] at hany; exact hany
      have HFAR := Lib.hid hany2
      have HGR := Lib.hid hgr
      clear hany hany2 hgr q2 q4 q5 q6 hD' hDb HD
      by_cases hbig : 1024 < T
      · have d3 : decide (1024 < T) = true := decide_eq_true hbig
        have d3' : decide (1024 < (T : Int)) = true := decide_eq_true (by omega)
        have hRe := Lib.hid (show R = (⟨#[]⟩, 2) from by
          rw [HRE.out, HFAR.out, if_neg (by simp), if_pos hbig])
        go_wp2_with fail
        go_ret2
        rw [hRe.out]
        exact ⟨_, rfl, rfl, HGR.out⟩
      · have d3 : decide (1024 < T) = false := decide_eq_false hbig
        have d3' : decide (1024 < (T : Int)) = false := decide_eq_false (by omega)
        have HBKK := Lib.hid (HBK.out (by omega))
        go_wp2_with fail
        clear HBK
        go_loopw [9, 10] (fun v9 iv wr => ∃ (i : Nat) (acc : ByteArray), v9 = .string acc ∧ iv = .int .i64 (i : Int) ∧ i ≤ n ∧ joinP b s (l.drop i) acc = joinP b s l ⟨#[]⟩ ∧ acc.size ≤ 1024 ∧ Grew w wr) (fun _ iv _ => n - (intOf iv).toNat)
        case atStart => exact ⟨0, ⟨#[]⟩, rfl, rfl, Nat.zero_le _, rfl, by decide, HGR.out⟩
        case round =>
          obtain ⟨j, acc, rfl, rfl, hj, hjn, hacc, hgr⟩ := hrel
          obtain ⟨m, hm⟩ : ∃ m, m = acc.size := ⟨_, rfl⟩
          have hm2 : m ≤ 1024 := by omega
          have HM := Lib.hid hm
          have HJN := Lib.hid hjn
          have HGR2 := Lib.hid hgr
          clear hm hjn hacc hgr
          by_cases hlt : j < n
          · have d1 : decide ((j : Int) < (n : Int)) = true := decide_eq_true (by omega)
            have d2 : decide (j < n) = true := decide_eq_true hlt
            have i1 : (j : Int) < (n : Int) := by omega
            obtain ⟨ad1, rfl, a0, a1, a2⟩ := at_T43 (HR.out wr HGR2.out) (j : Int) (by omega) (by rw [← HN.out]; exact i1)
            have hat := rdP_at (l := l) (i := j) (by rw [← HN.out]; exact hlt)
            obtain ⟨e, he⟩ : ∃ e, e = rd_T43 l (j : Int) := ⟨_, rfl⟩
            rw [← he] at hat
            rw [Int.toNat_natCast, ← he] at a0 a1 a2
            have wi : IntKind.i64.wrap ((j : Int) + 1) = (j : Int) + 1 := IntWalk.i64_in _ (by omega)
            have HWI := Lib.hid wi
            have hjc := joinP_cons (b := b) (s := s) hat acc
            rw [HJN.out] at hjc
            have hos : (outP b s e).size ≤ 5000 := by
              unfold outP
              split
              · have := blk_sizeP b s e.f1.toNat; omega
              · exact HS.out e (List.mem_of_getElem? hat)
            obtain ⟨o, ho⟩ : ∃ o, o = outP b s e := ⟨_, rfl⟩
            rw [← ho] at hjc hos
            have hsum : ¬ 9223372036854775807 < acc.size + o.size := by rw [← HM.out]; omega
            obtain ⟨z, hz0⟩ : ∃ z, (acc ++ o).size = z := ⟨_, rfl⟩
            have hz0n : z = m + o.size := by rw [← hz0, ByteArray.size_append, HM.out]
            have HZ0 := Lib.hid hz0n
            have HZ1 := Lib.hid hz0
            have HJC := Lib.hid hjc
            have HO := Lib.hid ho
            have hfar := fun hf => List.any_eq_false.1 HFAR.out e (List.mem_of_getElem? hat) hf
            have hpos := HOK.out e (List.mem_of_getElem? hat)
            clear hjc ho hat he hos hz0n
            obtain ⟨f0, f1, f2⟩ := e
            simp only at a0 a1 a2
            have HA := Lib.hid (fun wx (h : Grew wr wx) => And.intro (pw_cell_below h a0) (And.intro (pw_cell_below h a1) (pw_cell_below h a2)))
            cases f0 with
            | false =>
              have ho2 : f2 = o := HO.out.symm
              rw [ho2] at a2
              clear ho2 hfar hpos
              by_cases hbg : 1024 < z
              · have d3 : decide (1024 < (z : Int)) = true := decide_eq_true (by omega)
                have d3n : decide (1024 < z) = true := decide_eq_true hbg
                have hRe := Lib.hid (show R = (⟨#[]⟩, 2) from by
                  rw [HRE.out, HFAR.out, if_neg (by simp), if_neg hbig, HJC.out, if_pos (by rw [← HM.out, ← HZ0.out]; exact hbg)])
                go_wp2_with fail
                go_ret2
                rw [hRe.out]
                exact ⟨_, rfl, rfl, HGR2.out⟩
              · have d3 : decide (1024 < (z : Int)) = false := decide_eq_false (by omega)
                have d3n : decide (1024 < z) = false := decide_eq_false hbg
                have hjx : joinP b s (l.drop (j + 1)) (acc ++ o) = joinP b s l ⟨#[]⟩ := by
                  rw [HJC.out, if_neg (by rw [← HM.out, ← HZ0.out]; exact hbg)]
                have HJX := Lib.hid hjx
                clear hjx
                go_wp2_with fail
                go_roundw
                case rel => exact ⟨j + 1, acc ++ o, rfl, by go_num, by omega, HJX.out, by rw [HZ1.out]; omega, HGR2.out⟩
                case measure => have wi := HWI.out; simp [intOf, wi]; omega
            | true =>
              have ho2 : o = blkT b s f1.toNat := HO.out
              have hp1 : 0 ≤ f1 := hpos rfl
              have hp2 : f1 < (N : Int) := by
                simp only [farP, Bool.true_and, decide_eq_true_eq] at hfar
                exact Int.not_le.1 hfar
              obtain ⟨q, rfl⟩ := Int.eq_ofNat_of_zero_le hp1
              rw [Int.toNat_natCast] at ho2
              have q1 : q < N := by omega
              have HBA := Lib.hid (fun wx A_ (h : Kd.C Kd.string wx A_ N (blksT b s N)) => show ∃ ad, A_ = some ad ∧ wx.cell? (ad.add q) = some (.string o) from by
                have h9 := strs_cell h q q1
                rw [blks_at b s N q q1, ← ho2] at h9
                exact h9)
              clear hp1 ho2 hfar hpos
              go_wp2_with fail
              refine (HBKK.out wr).mono ?_
              rintro e w5 ⟨_, rfl, ⟨A5, c5, rfl, hc5, hC5⟩, hg5⟩
              obtain ⟨ad5, rfl, k5⟩ := HBA.out w5 A5 hC5
              obtain ⟨e0, e1, e2⟩ := HA.out w5 hg5
              have HG5 := Lib.hid (Grew.trans HGR2.out hg5)
              clear hC5 hg5 a0 a1 a2
              by_cases hbg : 1024 < z
              · have d3 : decide (1024 < (z : Int)) = true := decide_eq_true (by omega)
                have d3n : decide (1024 < z) = true := decide_eq_true hbg
                have hRe := Lib.hid (show R = (⟨#[]⟩, 2) from by
                  rw [HRE.out, HFAR.out, if_neg (by simp), if_neg hbig, HJC.out, if_pos (by rw [← HM.out, ← HZ0.out]; exact hbg)])
                go_wp2_with fail
                go_ret2
                rw [hRe.out]
                exact ⟨_, rfl, rfl, HG5.out⟩
              · have d3 : decide (1024 < (z : Int)) = false := decide_eq_false (by omega)
                have d3n : decide (1024 < z) = false := decide_eq_false hbg
                have hjx : joinP b s (l.drop (j + 1)) (acc ++ o) = joinP b s l ⟨#[]⟩ := by
                  rw [HJC.out, if_neg (by rw [← HM.out, ← HZ0.out]; exact hbg)]
                have HJX := Lib.hid hjx
                clear hjx
                go_wp2_with fail
                go_roundw
                case rel => exact ⟨j + 1, acc ++ o, rfl, by go_num, by omega, HJX.out, by rw [HZ1.out]; omega, HG5.out⟩
                case measure => have wi := HWI.out; simp [intOf, wi]; omega
          · obtain rfl : n = j := by omega
            have d1 : decide ((n : Int) < (n : Int)) = false := decide_eq_false (by omega)
            have d2 : decide (n < n) = false := decide_eq_false (by omega)
            have hRe := Lib.hid (show R = (acc, 0) from by
              have h9 := HJN.out
              rw [show l.drop n = [] from by rw [HN.out]; exact List.drop_length, joinP] at h9
              rw [HRE.out, HFAR.out, if_neg (by simp), if_neg hbig, ← h9])
            go_wp2_with fail
            go_ret2
            rw [hRe.out]
            exact ⟨_, rfl, rfl, HGR2.out⟩
end Go.Proofs.Ytimcafohmahapaa.F
