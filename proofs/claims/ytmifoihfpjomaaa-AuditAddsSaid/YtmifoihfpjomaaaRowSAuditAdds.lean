/- The row of the law AuditAdds: for every input the law's call returns true, whatever memory; no condition. Out of the contract AuditAdds_c. -/
import Derived.Test.YtmifoihfpjomaaaSE
import Derived.SizedLaws
import Derived.ChangeSlices
import Derived.Test.YtmifoihfpjomaaaVArr
import Derived.WideKeyArr2
import Derived.WalkKit
import Derived.ProofKit
import Derived.OpenShut
import Derived.Test.YtmifoihfpjomaaaRows
import Derived.ShutString
import Derived.ChangeOld
import Derived.Below
import Derived.Lib.SmallJoins

-- AuditAdds
namespace Go.Proofs.Ytmifoihfpjomaaa.F
open Go Go.RowKit Go.Proofs.YtmifoihfpjomaaaW.PrintWords Go.Proofs.YtmifoihfpjomaaaW.PrintLast Go.Proofs.YtmifoihfpjomaaaW.PrintMore Go.Proofs.YtmifoihfpjomaaaM Go.Proofs.YtmifoihfpjomaaaR
attribute [local go_sem] max2_int min2_int max_two min_two
set_option linter.unusedSimpArgs false
set_option linter.unusedVariables false
set_option maxRecDepth 100000
def unA (last : Int) : Option (ByteArray × List En) → ByteArray × Int × List En × Int
  | none => (⟨#[]⟩, 0, [], 1)
  | some r => (r.1, last + 1, r.2, 0)
theorem addV_un {base : Nat} {last : Int} {r : Option (ByteArray × List En)} {w : World} {v : Value} (h : AddV base last r w v) : ∃ v0, v = .tuple #[.agg #[.string (unA last r).1, .int .i64 (unA last r).2.1, v0], .int .i64 (unA last r).2.2.2] ∧ RowO w base 36 5 v0 (unA last r).2.2.1.length (ens (unA last r).2.2.1) := by
  cases r with
  | none => exact ⟨_, h, rowO_nil _ _ _ _⟩
  | some r => exact h
theorem addP_good {a : ByteArray} {last : Int} {l : List En} {e : En} : ∀ x ∈ (unA last (addP a last l e)).2.2.1, goodP x = true := by
  unfold addP
  cases h : mayP a last l && goodP (nextE last e) with
  | false => intro x hx; simp [unA] at hx
  | true =>
    simp only [Bool.and_eq_true] at h
    have hm := mayR h.1
    rw [if_pos rfl]
    intro x hx
    by_cases h8 : l.length = 8
    · rw [if_pos h8] at hx
      rcases List.mem_append.1 hx with hx | hx
      · exact hm.good x (List.mem_of_mem_drop hx)
      · obtain rfl := List.mem_singleton.1 hx; exact h.2
    · rw [if_neg h8] at hx
      rcases List.mem_append.1 hx with hx | hx
      · exact hm.good x hx
      · obtain rfl := List.mem_singleton.1 hx; exact h.2
theorem addP_len {a : ByteArray} {last : Int} {l : List En} {e : En} : (unA last (addP a last l e)).2.2.1.length ≤ 8 := by
  unfold addP
  cases h : mayP a last l && goodP (nextE last e) with
  | false => simp [unA]
  | true =>
    simp only [Bool.and_eq_true] at h
    have hm := (mayR h.1).len
    rw [if_pos rfl]
    by_cases h8 : l.length = 8
    · rw [if_pos h8]; simp [unA]; omega
    · rw [if_neg h8]; simp [unA]; omega
theorem rowO_C' {w : World} {base n c : Nat} {A : Option Addr} {l : List En} (h : RowO w base 36 5 (.slice A n c) n (ens l)) (hl : l.length = n) : Kd.C k36 w A n l := by
  obtain ⟨A', c', he, -, hC⟩ := rowO_C h hl
  injection he with e1 e2 e3
  rw [e1]
  exact hC
/-- an entry, its kind one more -/
def up (d : Int) (e : En) : En := ⟨e.f0, e.f1, e.f2 + d, e.f3, e.f4⟩
theorem ens_set (l : List En) (i : Nat) (e : En) (v : Int) (h : l[i]? = some e) : (ens l).set (i * 5 + 2) (.int .i64 v) = ens (l.set i ⟨e.f0, e.f1, v, e.f3, e.f4⟩) := by
  induction l generalizing i with
  | nil => simp at h
  | cons y l ih =>
    rw [ens_cons]
    cases i with
    | zero =>
      obtain rfl : y = e := by simpa using h
      simp [ens, enc5]
    | succ i =>
      have := ih i (by simpa using h)
      rw [show (i + 1) * 5 + 2 = 5 + (i * 5 + 2) from by omega, List.set_append_right _ _ (by simp [enc5]), show (enc5 y).length = 5 from rfl, Nat.add_sub_cancel_left, this]
      simp [ens]
def mid (d : Int) (l : List En) (i : Nat) : List En := (l.take i).map (up d) ++ l.drop i
theorem mid_len (d : Int) (l : List En) (i : Nat) : (mid d l i).length = l.length := by
  unfold mid; rw [List.length_append, List.length_map, List.length_take, List.length_drop]; omega
theorem mid_at (d : Int) (l : List En) (i : Nat) (e : En) (h : l[i]? = some e) : (mid d l i)[i]? = some e := by
  have hi := (List.getElem?_eq_some_iff.1 h).1
  unfold mid
  rw [List.getElem?_append_right (by rw [List.length_map, List.length_take]; omega), List.length_map, List.length_take, Nat.min_eq_left (by omega), Nat.sub_self, List.getElem?_drop, Nat.add_zero, h]
theorem mid_succ (d : Int) (l : List En) (i : Nat) (e : En) (h : l[i]? = some e) : mid d l (i + 1) = (mid d l i).set i (up d e) := by
  have hi := (List.getElem?_eq_some_iff.1 h).1
  have hl : ((l.take i).map (up d)).length = i := by rw [List.length_map, List.length_take]; omega
  unfold mid
  rw [List.set_append_right _ _ (by omega), hl, Nat.sub_self, List.take_add_one, h]
  have : l.drop i = e :: l.drop (i + 1) := by
    obtain ⟨hi, he⟩ := List.getElem?_eq_some_iff.1 h
    rw [← he]; exact List.drop_eq_getElem_cons hi
  rw [this]
  simp
theorem mid_all (d : Int) (l : List En) : mid d l l.length = l.map (up d) := by unfold mid; simp
theorem mid_0 (d : Int) (l : List En) : mid d l 0 = l := by simp [mid]
theorem up_back (l : List En) : (l.map (up 1)).map (up (-1)) = l := by
  rw [List.map_map]
  conv => rhs; rw [← List.map_id l]
  apply List.map_congr_left
  intro e _
  simp [up]
  cases e; simp; omega
theorem digP_len (a : ByteArray) (last : Int) (l : List En) (h : mayP a last l = false) : digP a last l = ⟨#[]⟩ := by unfold digP; rw [h]; rfl
set_option maxHeartbeats 8000000 in
theorem AuditAdds_c (w : World) (a : ByteArray) (last : Int) (A : Option Addr) (c : Nat) (l : List En) (s t k : Int) (p : ByteArray) (x : Int) {Q0 Q1 Q2 Q3 Q4 Q5 Q6 Q7 : Prop} (ok0 : Q0) (ok1 : Q1) (hr : Kd.C k36 w A l.length l) (hc : l.length ≤ c) (ok2 : Q2) (ok3 : Q3) (ok4 : Q4) (ok5 : Q5) (ok6 : Q6) (ok7 : Q7) :
    Calls Try.prog 4 #[.agg #[.string a, .int .i64 last, .slice A l.length c], .agg #[.int .i64 s, .int .i64 t, .int .i64 k, .string p, .int .i64 x]] w (Tells w (Is (.bool true))) := by
  clear ok0 ok1 ok2 ok3 ok4 ok5 ok6 ok7
  obtain ⟨sb, hsb, hsm⟩ := small_c a last l
  have HSM := Lib.hid (fun wx (h : Grew w wx) => hsm wx A c (Kd.C_below hr h) hc)
  have HCA := Lib.hid (fun wx (h : Grew w wx) => Kd.C_below hr h)
  have HMI := Lib.hid (fun wx (h : Grew w wx) (hl : l.length ≤ 40) => mine_c a last A c l wx (Kd.C_below hr h) hc (by omega))
  have HRM := Lib.hid (fun wx (h : Grew w wx) => rmay_c a last A c l wx (Kd.C_below hr h) hc)
  have HRA := Lib.hid (fun wx (h : Grew w wx) => radd_c a last A c l s t k p x wx (Kd.C_below hr h) hc)
  have HAD := Lib.hid (fun wx A' c' (h : Kd.C k36 wx A' l.length l) (hc' : l.length ≤ c') => add_c a last A' c' l s t k p x wx h hc')
  have HDG := Lib.hid (fun wx A' c' (h : Kd.C k36 wx A' l.length l) (hc' : l.length ≤ c') => digest_c a last A' c' l wx h hc')
  obtain ⟨n, hn⟩ : ∃ n, n = l.length := ⟨_, rfl⟩
  have HSB := Lib.hid hsb
  have HN := Lib.hid hn
  rw [← hn] at HSM HCA HMI HRM HRA HAD HDG hc ⊢
  obtain ⟨ps, hps⟩ : ∃ ps, p.size = ps := ⟨_, rfl⟩
  obtain ⟨W0, hW0⟩ : ∃ W0, W0 = (w.alloc (.cells #[.string a, .int .i64 last, .slice A n c] 24)).alloc (.cells #[.int .i64 s, .int .i64 t, .int .i64 k, .string p, .int .i64 x] 36) := ⟨_, rfl⟩
  obtain ⟨H, hH⟩ : ∃ H, H = w.heap.size := ⟨_, rfl⟩
  have hb0 : Blk W0 H 24 [.string a, .int .i64 last, .slice A n c] := by rw [hW0, hH]; exact (Blk.new w _ _).grew (Grew.alloc _ _)
  have hb1 : Blk W0 (H + 1) 36 [.int .i64 s, .int .i64 t, .int .i64 k, .string p, .int .i64 x] := by
    rw [hW0, hH]
    have := Blk.new (w.alloc (.cells #[.string a, .int .i64 last, .slice A n c] 24)) 36 [.int .i64 s, .int .i64 t, .int .i64 k, .string p, .int .i64 x]
    simpa using this
  have hg0 : Grew w W0 := by rw [hW0]; exact (Grew.alloc _ _).trans (Grew.alloc _ _)
  have HB0 := Lib.hid (fun wx (h : Grew W0 wx) => hb0.grew h)
  have HB1 := Lib.hid (fun wx (h : Grew W0 wx) => hb1.grew h)
  have HG0 := Lib.hid hg0
  have HWE := Lib.hid hW0
  have HHE := Lib.hid hH
  clear hr hsm hsb hn hb0 hb1 hg0 hW0 hH
  go_enter Try.func4, Try.ntmps4
  go_wp2_with fail
  rw [← HWE.out]
  rw [← HHE.out]
  refine (HSM.out W0 HG0.out).mono ?_
  rintro e w1 ⟨_, rfl, rfl, hg1⟩
  have j3 := (HB1.out w1 hg1).at_ 3
  simp only [List.getElem?_cons_zero, List.getElem?_cons_succ] at j3
  by_cases hgo : sb = true ∧ ps ≤ 1000
  · obtain ⟨rfl, hp1⟩ := hgo
    have hl40 := HSB.out rfl
    rw [← HN.out] at hl40
    have d1 : decide (1000 < ps) = false := decide_eq_false (by omega)
    have d1' : decide (1000 < (ps : Int)) = false := decide_eq_false (by omega)
    have b0 := HB0.out w1 hg1
    have k0 := b0.at_ 0
    have k1 := b0.at_ 1
    have k2 := b0.at_ 2
    simp only [List.getElem?_cons_zero, List.getElem?_cons_succ] at k0 k1 k2
    clear b0
    go_wp2_with fail
    clear j3 k0 k1 k2 d1 d1' hps hp1
    refine (HMI.out w1 (Grew.trans HG0.out hg1) hl40).mono ?_
    rintro e w2 ⟨_, rfl, ⟨A2, c2, rfl, hc2, hC2⟩, hg2⟩
    rw [← HN.out] at hC2 hc2 ⊢
    have hg2' := Grew.trans hg1 hg2
    obtain ⟨g5, hg5⟩ : ∃ g5, g5 = w2.heap.size := ⟨_, rfl⟩
    obtain ⟨W2, hW2⟩ : ∃ W2, W2 = w2.alloc (.cells #[.string a, .int .i64 last, .slice A2 n c2] 27) := ⟨_, rfl⟩
    have hb5 : Blk W2 g5 27 [.string a, .int .i64 last, .slice A2 n c2] := by rw [hW2, hg5]; exact Blk.new _ _ _
    have hgr2 : Grew w2 W2 := by rw [hW2]; exact Grew.alloc _ _
    have hG2 := Grew.trans hg2' hgr2
    have b1 := HB1.out W2 hG2
    have j0 := b1.at_ 0
    have j1 := b1.at_ 1
    have j2 := b1.at_ 2
    have j3 := b1.at_ 3
    have j4 := b1.at_ 4
    have k0 := hb5.at_ 0
    have k1 := hb5.at_ 1
    have k2 := hb5.at_ 2
    simp only [List.getElem?_cons_zero, List.getElem?_cons_succ] at j0 j1 j2 j3 j4 k0 k1 k2
    rw [hW2, hg5] at k0 k1 k2
    rw [hW2] at j0 j1 j2 j3 j4
    have HCM := Lib.hid (fun wx (h : Grew W2 wx) => Kd.C_below hC2 (Grew.trans hgr2 h))
    have HB5 := Lib.hid hb5
    have HG2 := Lib.hid hG2
    have HW2 := Lib.hid hW2
    have HG5 := Lib.hid hg5
    clear b1 hb5 hgr2 hC2 hW2 hg5 hG2 hg1 hg2 hg2'
    go_wp2_with fail
    rw [← HW2.out]
    rw [← HG5.out]
    clear j0 j1 j2 j3 j4 k0 k1 k2
    refine (HAD.out W2 A2 c2 (HCM.out W2 (Grew.refl _)) hc2).mono ?_
    rintro e w3 ⟨_, rfl, hV3, hg3⟩
    obtain ⟨v6, rfl, hx3⟩ := addV_un hV3
    have hgd := @addP_good a last l ⟨s, t, k, p, x⟩
    have hln := @addP_len a last l ⟨s, t, k, p, x⟩
    obtain ⟨⟨ra, rlast, rl, re⟩, hre⟩ : ∃ r, r = unA last (addP a last l ⟨s, t, k, p, x⟩) := ⟨_, rfl⟩
    rw [← hre] at hx3 hgd hln ⊢
    simp only at hx3 hgd hln ⊢
    obtain ⟨n6, hn6⟩ : ∃ n6, n6 = rl.length := ⟨_, rfl⟩
    rw [← hn6] at hx3 hln
    obtain ⟨A6, c6, rfl, hc6⟩ := hx3.slice
    obtain ⟨g6, hg6⟩ : ∃ g6, g6 = w3.heap.size := ⟨_, rfl⟩
    obtain ⟨W3, hW3⟩ : ∃ W3, W3 = w3.alloc (.cells #[.string ra, .int .i64 rlast, .slice A6 n6 c6] 27) := ⟨_, rfl⟩
    have hb6 : Blk W3 g6 27 [.string ra, .int .i64 rlast, .slice A6 n6 c6] := by rw [hW3, hg6]; exact Blk.new _ _ _
    have hgr3 : Grew w3 W3 := by rw [hW3]; exact Grew.alloc _ _
    have hG3 := Grew.trans HG2.out (Grew.trans hg3 hgr3)
    have hx3' := hx3.grew hgr3
    have b1 := HB1.out W3 hG3
    have b0 := HB0.out W3 hG3
    have j0 := b1.at_ 0
    have j1 := b1.at_ 1
    have j2 := b1.at_ 2
    have j3 := b1.at_ 3
    have j4 := b1.at_ 4
    have k0 := b0.at_ 0
    have k1 := b0.at_ 1
    have k2 := b0.at_ 2
    simp only [List.getElem?_cons_zero, List.getElem?_cons_succ] at j0 j1 j2 j3 j4 k0 k1 k2
    rw [hW3] at j0 j1 j2 j3 j4 k0 k1 k2
    have HB6a := Lib.hid hb6
    have HG3 := Lib.hid hG3
    have HG23 := Lib.hid (Grew.trans hg3 hgr3)
    have HW3 := Lib.hid hW3
    have HG6 := Lib.hid hg6
    have HX3 := Lib.hid hx3'
    have HGD := Lib.hid hgd
    have HN6 := Lib.hid hn6
    have HRE := Lib.hid hre
    clear b1 b0 hb6 hgr3 hx3 hx3' hW3 hg6 hG3 hg3 hV3 hgd hn6 hre
    go_wp2_with fail
    rw [← HW3.out]
    rw [← HG6.out]
    clear j0 j1 j2 j3 j4 k0 k1 k2
    refine (HRA.out W3 (Grew.trans HG0.out HG3.out)).mono ?_
    rintro e w4 ⟨_, rfl, hV4, hg4⟩
    obtain ⟨v8, rfl, hx4⟩ := addV_un hV4
    rw [← HRE.out] at hx4 ⊢
    simp only at hx4 ⊢
    rw [← HN6.out] at hx4
    obtain ⟨A8, c8, rfl, hc8⟩ := hx4.slice
    obtain ⟨g8, hg8⟩ : ∃ g8, g8 = w4.heap.size := ⟨_, rfl⟩
    obtain ⟨W4, hW4⟩ : ∃ W4, W4 = w4.alloc (.cells #[.string ra, .int .i64 rlast, .slice A8 n6 c8] 24) := ⟨_, rfl⟩
    have hb8 : Blk W4 g8 24 [.string ra, .int .i64 rlast, .slice A8 n6 c8] := by rw [hW4, hg8]; exact Blk.new _ _ _
    have hgr4 : Grew w4 W4 := by rw [hW4]; exact Grew.alloc _ _
    have hG4 := Grew.trans HG3.out (Grew.trans hg4 hgr4)
    have hG34 := Grew.trans hg4 hgr4
    have hxr := HX3.out.grew hG34
    have hyr := hx4.grew hgr4
    have hb6z := HB6a.out.grew hG34
    have hb5z := HB5.out.grew (Grew.trans HG23.out hG34)
    have hb0z := HB0.out W4 hG4
    have n60 := hxr.ne hb6z (by decide)
    have n50 := hxr.ne hb5z (by decide)
    have n00 := hxr.ne hb0z (by decide)
    have n80 := hxr.ne hb8 (by decide)
    have hxb := hxr.base_
    have hyb := hyr.base_
    have hxl := HX3.out.lt
    have HB6 := Lib.hid (fun wx (h : Upd (fun j => (Value.slice A6 n6 c6).ownBlock = some j) W4 wx) => hb6z.upd h n60)
    have HB5z := Lib.hid (fun wx (h : Upd (fun j => (Value.slice A6 n6 c6).ownBlock = some j) W4 wx) => hb5z.upd h n50)
    have HB0z := Lib.hid (fun wx (h : Upd (fun j => (Value.slice A6 n6 c6).ownBlock = some j) W4 wx) => hb0z.upd h n00)
    have HB8 := Lib.hid (fun wx (h : Upd (fun j => (Value.slice A6 n6 c6).ownBlock = some j) W4 wx) => hb8.upd h n80)
    have HG2W := Lib.hid (fun wx (h : Upd (fun j => (Value.slice A6 n6 c6).ownBlock = some j) W4 wx) => ((Upd.of_grew (S := fun j => (Value.slice A6 n6 c6).ownBlock = some j) (Grew.trans HG23.out hG34)).trans h).grew (fun i hi e => by have := hxb i e; omega))
    have HYR := Lib.hid (fun wx (h : Upd (fun j => (Value.slice A6 n6 c6).ownBlock = some j) W4 wx) => hyr.upd h (fun j hj e => by have h1 := hyb j hj; have h2 := hxl j e; omega))
    have HXW := Lib.hid hxr
    have HG4 := Lib.hid hG4
    have q0 := hb5z.at_ 0
    have q1 := hb5z.at_ 1
    have q2 := hb5z.at_ 2
    simp only [List.getElem?_cons_zero, List.getElem?_cons_succ] at q0 q1 q2
    rw [hW4] at q0 q1 q2
    have HW4 := Lib.hid hW4
    have HG8 := Lib.hid hg8
    clear hb8 hgr4 hG34 hxr hyr hb6z hb5z hb0z n60 n50 n00 n80 hxb hyb hxl hW4 hg8 hx4 hV4 hg4 hG4
    go_wp2_with fail
    rw [← HW4.out]
    rw [← HG8.out]
    clear q0 q1 q2
    refine (HDG.out W4 A2 c2 (HCM.out W4 (HG2W.out W4 (Upd.refl _ _))) hc2).mono ?_
    rintro e w5 ⟨_, rfl, rfl, hg5⟩
    have b0 := HB0z.out w5 (Upd.of_grew hg5)
    have k0 := b0.at_ 0
    have k1 := b0.at_ 1
    have k2 := b0.at_ 2
    simp only [List.getElem?_cons_zero, List.getElem?_cons_succ] at k0 k1 k2
    clear b0
    obtain ⟨D, hD⟩ : ∃ D, D = digP a last l := ⟨_, rfl⟩
    rw [← hD]
    have HD := Lib.hid hD
    clear hD
    go_wp2_with fail
    refine (HRM.out w5 (Grew.trans HG0.out (Grew.trans HG4.out hg5))).mono ?_
    rintro e w6 ⟨_, rfl, rfl, hg6⟩
    have hg6' := Grew.trans hg5 hg6
    clear k0 k1 k2 hg5 hg6
    have b0 := HB0z.out w6 (Upd.of_grew hg6')
    have k0 := b0.at_ 0
    have k1 := b0.at_ 1
    have k2 := b0.at_ 2
    simp only [List.getElem?_cons_zero, List.getElem?_cons_succ] at k0 k1 k2
    clear b0
    obtain ⟨b, hb⟩ : ∃ b, mayP a last l = b := ⟨_, rfl⟩
    rw [hb] at HRM ⊢
    have HBm := Lib.hid hb
    clear hb
    cases b
    case' true =>
      have hm := mayR HBm.out
      have hsz := hm.sz
      have hdd : D = strOfNums (chainE (bytesOf a) l) := by rw [HD.out]; unfold digP; rw [HBm.out]; rfl
      have HCH := Lib.hid (fun wx (h : Grew w wx) => rachain_c wx (bytesOf a) A n c l (HCA.out wx h) HN.out.symm hc (by omega) (bytesOf_bytes a) (by rw [bytesOf_length]; omega) hm.good)
      rw [str_bytes, ← hdd] at HCH
      clear hm hsz hdd
      go_wp2_with fail
      refine (HCH.out w6 (Grew.trans HG0.out (Grew.trans HG4.out hg6'))).mono ?_
      rintro e w6b ⟨_, rfl, rfl, hg6b⟩
      have hg6c := Grew.trans hg6' hg6b
      have b0 := HB0z.out w6b (Upd.of_grew hg6c)
      have k0 := b0.at_ 0
      have k1 := b0.at_ 1
      have k2 := b0.at_ 2
      simp only [List.getElem?_cons_zero, List.getElem?_cons_succ] at k0 k1 k2
      clear b0
      go_wp2_with fail
      refine (HRM.out w6b (Grew.trans HG0.out (Grew.trans HG4.out hg6c))).mono ?_
      rintro e w7 ⟨_, rfl, rfl, hg7⟩
      have hg7' := Grew.trans hg6c hg7
      clear k0 k1 k2 hg6c hg7 hg6b
      go_wp2_with fail
    case' false =>
      have hdd : D = ⟨#[]⟩ := by rw [HD.out]; exact digP_len _ _ _ HBm.out
      subst hdd
      go_wp2_with fail
      refine (HRM.out w6 (Grew.trans HG0.out (Grew.trans HG4.out hg6'))).mono ?_
      rintro e w7 ⟨_, rfl, rfl, hg7⟩
      have hg7' := Grew.trans hg6' hg7
      clear k0 k1 k2 hg7
      go_wp2_with fail
    all_goals
      have HK1 := Lib.hid (show ∀ y ∈ rl, 0 ≤ y.f2 ∧ y.f2 ≤ 101 from fun y hy => by have h := goodR (HGD.out y hy); have h1 := h.k0; have h2 := h.k1; omega)
      have HK11 := Lib.hid (show ∀ y ∈ rl, 0 ≤ y.f2 from fun y hy => (goodR (HGD.out y hy)).k0)
      have HK2 := Lib.hid (show ∀ y ∈ rl.map (up 1), 0 ≤ y.f2 ∧ y.f2 ≤ 101 from fun y hy => by
        obtain ⟨z, hz, rfl⟩ := List.mem_map.1 hy
        have h := goodR (HGD.out z hz); have h1 := h.k0; have h2 := h.k1; simp only [up]; omega)
      have HK21 := Lib.hid (show ∀ y ∈ rl.map (up 1), 1 ≤ y.f2 from fun y hy => by
        obtain ⟨z, hz, rfl⟩ := List.mem_map.1 hy
        have h := goodR (HGD.out z hz); have h1 := h.k0; simp only [up]; omega)
      have HUR := Lib.hid (show Upd (fun j => (Value.slice A6 n6 c6).ownBlock = some j) W4 w7 from Upd.of_grew hg7')
      have HXR := Lib.hid (HXW.out.grew hg7')
      clear hg6' hg7'

      go_loopw [11] (fun iv wr => ∃ i : Nat, iv = .int .i64 (i : Int) ∧ i ≤ n6 ∧ RowO wr W2.heap.size 36 5 (.slice A6 n6 c6) n6 (ens (mid (1) rl i)) ∧ Upd (fun j => (Value.slice A6 n6 c6).ownBlock = some j) W4 wr) (fun iv _ => n6 - (intOf iv).toNat)
      case atStart => exact ⟨0, rfl, Nat.zero_le _, by rw [mid_0]; exact HXR.out, HUR.out⟩
      case round =>
        obtain ⟨i, rfl, hi, hrow, hur⟩ := hrel
        have b6 := HB6.out wr hur
        have m2 := b6.at_ 2
        simp only [List.getElem?_cons_zero, List.getElem?_cons_succ] at m2
        rcases Nat.lt_or_ge i n6 with hlt | hge
        · have d1 : decide ((i : Int) < (n6 : Int)) = true := decide_eq_true (by omega)
          have d2 : decide (i < n6) = true := decide_eq_true hlt
          have i1 : (i : Int) < (n6 : Int) := by omega
          obtain ⟨y, hy⟩ : ∃ y, (rl)[i]? = some y := ⟨_, List.getElem?_eq_getElem (by rw [← HN6.out]; exact hlt)⟩
          have hyk : 0 ≤ y.f2 ∧ y.f2 ≤ 101 := HK1.out y (List.mem_of_getElem? hy)
          have hyk1 : 1 ≤ y.f2 + 1 := by have := HK11.out y (List.mem_of_getElem? hy); omega
          have hat := mid_at (1) _ i y hy
          obtain ⟨gx, ox, cap, hv, -, -, -, hcell, hfz⟩ := hrow.at_ (by omega)
          injection hv with hv1 hv2 hv3
          subst hv1 hv3
          have q2 := hcell (i * 5 + 2) (by omega)
          rw [ens_at _ i y hat 2 (by omega), ← Nat.add_assoc] at q2
          have z2 := hfz (ox + i * 5 + 2)
          simp only [enc5, List.getElem?_cons_zero, List.getElem?_cons_succ] at q2
          have hset := hrow.set rfl (i * 5 + 2) (by omega) (.int .i64 (y.f2 + (1)))
          rw [ens_set _ i y _ hat, ← Nat.add_assoc] at hset
          have hmid : mid (1) rl (i + 1) = (mid (1) rl i).set i ⟨y.f0, y.f1, y.f2 + (1), y.f3, y.f4⟩ := by rw [mid_succ _ _ i y hy]; rfl
          rw [← hmid] at hset
          have hus := Upd.set (S := fun j => (Value.slice (some ⟨gx, ox, none⟩) n6 c6).ownBlock = some j) (p := ⟨gx, ox + i * 5 + 2, none⟩) hur (.inl rfl) (.int .i64 (y.f2 + (1)))
          obtain ⟨f2, hf2⟩ : ∃ f2, f2 = y.f2 := ⟨_, rfl⟩
          rw [← hf2] at q2 hyk hyk1 hset hus
          skip
          have HSET := Lib.hid hset
          have HUS := Lib.hid hus
          clear hrow hur b6 hy hat hcell hfz hset hus hmid hf2 hv2
          go_wp2_with fail
          go_roundw
          case rel => exact ⟨i + 1, by go_num, by omega, HSET.out, HUS.out⟩
          case measure => simp [intOf]; omega
        · obtain rfl : n6 = i := by omega
          have d1 : decide ((n6 : Int) < (n6 : Int)) = false := decide_eq_false (by omega)
          have d2 : decide (n6 < n6) = false := decide_eq_false (by omega)
          have hrow' := hrow
          have HXR2 := Lib.hid (by rw [HN6.out, mid_all] at hrow'; rw [← HN6.out] at hrow'; exact hrow')
          have HUR2 := Lib.hid hur
          clear hrow hrow' hur b6
          go_wp2_with fail
          clear m2
          apply region_grew [Is _, Is _, Is _] [([(5, none)], none), ([(76, some 0)], none), ([(2, none)], none)] [(76, 0), (77, 1), (78, 2)] rfl (by kernel_rfl) (by kernel_rfl) (show Stable Grew _ from ⟨Is.stable _, Is.stable _, Is.stable _, trivial⟩)
          · show OpsHold _ _ _ _ _ _ _ _ _
            refine ⟨fun a_ wx hR hD K hK => ?_, ?_⟩
            · have hG : Grew wr wx := (Grew.drew _).trans hR
              simp [Deps, Dep, at_, Is] at hD
              have b0 := HB5z.out wx (HUR2.out.trans (Upd.of_grew hG))
              have e0 := b0.at_ 0
              have e1 := b0.at_ 1
              have e2 := b0.at_ 2
              simp only [List.getElem?_cons_zero, List.getElem?_cons_succ] at e0 e1 e2
              go_simp
              exact hK _ _ (Grew.refl _) rfl
            refine ⟨fun a_ wx hR hD K hK => ?_, ?_⟩
            · have hG : Grew wr wx := (Grew.drew _).trans hR
              simp [Deps, Dep, at_, Is] at hD
              go_simp
              have hcn := theirs_c a last A2 n c2 wx
              with_reducible refine hcn.mono ?_
              clear hcn
              rintro e wy ⟨v, rfl, hv, hg⟩
              exact hK _ _ hg hv
            refine ⟨fun a_ wx hR hD K hK => ?_, ?_⟩
            · have hG : Grew wr wx := (Grew.drew _).trans hR
              simp [Deps, Dep, at_, Is] at hD
              have b0 := HB0z.out wx (HUR2.out.trans (Upd.of_grew hG))
              have e0 := b0.at_ 0
              have e1 := b0.at_ 1
              have e2 := b0.at_ 2
              simp only [List.getElem?_cons_zero, List.getElem?_cons_succ] at e0 e1 e2
              go_simp
              exact hK _ _ (Grew.refl _) rfl
            trivial
          · show EndHold _ _ _ _ _ _ _
            refine end_all (xs := [_, _, _]) ⟨rfl, rfl, rfl, trivial⟩ ?_
            rintro w8 hR1 -
            refine ⟨?_⟩
            have hG_w8 : Grew wr w8 := (Grew.drew _).trans hR1
            clear hR1
            simp only [Act.put, List.setIfInBounds_toArray, List.set_cons_succ, List.set_cons_zero, dropN, putEach]
            go_wp2_with fail
            refine (same_c a last A2 A n c2 c l w8 (HCM.out w8 (HG2W.out w8 (HUR2.out.trans (Upd.of_grew hG_w8)))) (HCA.out w8 (Grew.trans HG0.out (Grew.trans HG2.out (HG2W.out w8 (HUR2.out.trans (Upd.of_grew hG_w8)))))) HN.out.symm hc2 hc (by omega)).mono ?_
            rintro e w9 ⟨_, rfl, rfl, hg9⟩
            have HXR := Lib.hid (HXR2.out.grew (Grew.trans hG_w8 hg9))
            have HUR := Lib.hid (HUR2.out.trans (Upd.of_grew (Grew.trans hG_w8 hg9)))
            clear hG_w8 hg9
            go_wp2_with fail
            go_loopw [13] (fun iv wr => ∃ i : Nat, iv = .int .i64 (i : Int) ∧ i ≤ n6 ∧ RowO wr W2.heap.size 36 5 (.slice A6 n6 c6) n6 (ens (mid (-1) (rl.map (up 1)) i)) ∧ Upd (fun j => (Value.slice A6 n6 c6).ownBlock = some j) W4 wr) (fun iv _ => n6 - (intOf iv).toNat)
            case atStart => exact ⟨0, rfl, Nat.zero_le _, by rw [mid_0]; exact HXR.out, HUR.out⟩
            case round =>
              obtain ⟨i, rfl, hi, hrow, hur⟩ := hrel
              have b6 := HB6.out wr hur
              have m2 := b6.at_ 2
              simp only [List.getElem?_cons_zero, List.getElem?_cons_succ] at m2
              rcases Nat.lt_or_ge i n6 with hlt | hge
              · have d1 : decide ((i : Int) < (n6 : Int)) = true := decide_eq_true (by omega)
                have d2 : decide (i < n6) = true := decide_eq_true hlt
                have i1 : (i : Int) < (n6 : Int) := by omega
                obtain ⟨y, hy⟩ : ∃ y, ((rl.map (up 1)))[i]? = some y := ⟨_, List.getElem?_eq_getElem (by rw [List.length_map, ← HN6.out]; exact hlt)⟩
                have hyk : 0 ≤ y.f2 ∧ y.f2 ≤ 101 := HK2.out y (List.mem_of_getElem? hy)
                have hyk1 : 1 ≤ y.f2 + 0 := by have := HK21.out y (List.mem_of_getElem? hy); omega
                have hat := mid_at (-1) _ i y hy
                obtain ⟨gx, ox, cap, hv, -, -, -, hcell, hfz⟩ := hrow.at_ (by omega)
                injection hv with hv1 hv2 hv3
                subst hv1 hv3
                have q2 := hcell (i * 5 + 2) (by omega)
                rw [ens_at _ i y hat 2 (by omega), ← Nat.add_assoc] at q2
                have z2 := hfz (ox + i * 5 + 2)
                simp only [enc5, List.getElem?_cons_zero, List.getElem?_cons_succ] at q2
                have hset := hrow.set rfl (i * 5 + 2) (by omega) (.int .i64 (y.f2 + (-1)))
                rw [ens_set _ i y _ hat, ← Nat.add_assoc] at hset
                have hmid : mid (-1) (rl.map (up 1)) (i + 1) = (mid (-1) (rl.map (up 1)) i).set i ⟨y.f0, y.f1, y.f2 + (-1), y.f3, y.f4⟩ := by rw [mid_succ _ _ i y hy]; rfl
                rw [← hmid] at hset
                have hus := Upd.set (S := fun j => (Value.slice (some ⟨gx, ox, none⟩) n6 c6).ownBlock = some j) (p := ⟨gx, ox + i * 5 + 2, none⟩) hur (.inl rfl) (.int .i64 (y.f2 + (-1)))
                obtain ⟨f2, hf2⟩ : ∃ f2, f2 = y.f2 := ⟨_, rfl⟩
                rw [← hf2] at q2 hyk hyk1 hset hus
                rw [show f2 + (-1) = f2 - 1 from by omega] at hset hus
                have HSET := Lib.hid hset
                have HUS := Lib.hid hus
                clear hrow hur b6 hy hat hcell hfz hset hus hmid hf2 hv2
                go_wp2_with fail
                go_roundw
                case rel => exact ⟨i + 1, by go_num, by omega, HSET.out, HUS.out⟩
                case measure => simp [intOf]; omega
              · obtain rfl : n6 = i := by omega
                have d1 : decide ((n6 : Int) < (n6 : Int)) = false := decide_eq_false (by omega)
                have d2 : decide (n6 < n6) = false := decide_eq_false (by omega)
                have hrow' := hrow
                have HXR3 := Lib.hid (by have e : mid (-1) (rl.map (up 1)) n6 = rl := (by rw [HN6.out, show rl.length = (rl.map (up 1)).length from by rw [List.length_map], mid_all, up_back]); rw [e] at hrow'; exact hrow')
                have HUR3 := Lib.hid hur
                clear hrow hrow' hur b6
                go_wp2_with fail
                clear m2
                apply region_grew [Is _, Is _, Is _, Is _, Is _, Is _, Is _, Is _, Is _, Is _] [([(12, none)], none), ([(96, some 0)], none), ([(6, none), (97, some 1)], some (97, true)), ([(98, some 2), (97, some 1)], some (97, true)), ([(8, none), (97, some 1)], some (97, true)), ([(99, some 3), (100, some 4), (97, some 1)], some (97, true)), ([(97, some 1), (101, some 5)], none), ([(102, some 6)], none), ([(7, none), (103, some 7)], some (103, true)), ([(9, none), (103, some 7)], some (103, true))] [(96, 0), (97, 1), (98, 2), (99, 3), (100, 4), (101, 5), (102, 6), (103, 7), (104, 8), (105, 9)] rfl (by kernel_rfl) (by kernel_rfl) (show Stable Grew _ from ⟨Is.stable _, Is.stable _, Is.stable _, Is.stable _, Is.stable _, Is.stable _, Is.stable _, Is.stable _, Is.stable _, Is.stable _, trivial⟩)
                · show OpsHold _ _ _ _ _ _ _ _ _
                  refine ⟨fun a_ wx hR hD K hK => ?_, ?_⟩
                  · have hG : Grew wr wx := (Grew.drew _).trans hR
                    simp [Deps, Dep, at_, Is] at hD
                    go_simp
                    exact hK _ _ (Grew.refl _) rfl
                  refine ⟨fun a_ wx hR hD K hK => ?_, ?_⟩
                  · have hG : Grew wr wx := (Grew.drew _).trans hR
                    simp [Deps, Dep, at_, Is] at hD
                    go_simp
                    exact hK _ _ (Grew.refl _) rfl
                  refine ⟨fun a_ wx hR hD => ⟨fun hgd K hK => ?_, fun hgd => ?_⟩, ?_⟩
                  · have hG : Grew wr wx := (Grew.drew _).trans hR
                    clear hgd
                    simp [Deps, Dep, at_, Is] at hD
                    obtain ⟨hd0, hd1⟩ := hD
                    have b0 := HB6.out wx (HUR3.out.trans (Upd.of_grew hG))
                    have e0 := b0.at_ 0
                    have e1 := b0.at_ 1
                    have e2 := b0.at_ 2
                    simp only [List.getElem?_cons_zero, List.getElem?_cons_succ] at e0 e1 e2
                    go_simp
                    exact hK _ _ (Grew.refl _) rfl
                  · have hG : Grew wr wx := (Grew.drew _).trans hR
                    exfalso
                    simp [Deps, Dep, at_, Is] at hD
                    simp_all
                  refine ⟨fun a_ wx hR hD => ⟨fun hgd K hK => ?_, fun hgd => ?_⟩, ?_⟩
                  · have hG : Grew wr wx := (Grew.drew _).trans hR
                    clear hgd
                    simp [Deps, Dep, at_, Is] at hD
                    obtain ⟨hd0, hd1⟩ := hD
                    go_simp
                    have hcn := theirs_c ra rlast A6 n6 c6 wx
                    with_reducible refine hcn.mono ?_
                    clear hcn
                    rintro e wy ⟨v, rfl, hv, hg⟩
                    exact hK _ _ hg hv
                  · have hG : Grew wr wx := (Grew.drew _).trans hR
                    exfalso
                    simp [Deps, Dep, at_, Is] at hD
                    simp_all
                  refine ⟨fun a_ wx hR hD => ⟨fun hgd K hK => ?_, fun hgd => ?_⟩, ?_⟩
                  · have hG : Grew wr wx := (Grew.drew _).trans hR
                    clear hgd
                    simp [Deps, Dep, at_, Is] at hD
                    obtain ⟨hd0, hd1⟩ := hD
                    have b0 := HB8.out wx (HUR3.out.trans (Upd.of_grew hG))
                    have e0 := b0.at_ 0
                    have e1 := b0.at_ 1
                    have e2 := b0.at_ 2
                    simp only [List.getElem?_cons_zero, List.getElem?_cons_succ] at e0 e1 e2
                    go_simp
                    exact hK _ _ (Grew.refl _) rfl
                  · have hG : Grew wr wx := (Grew.drew _).trans hR
                    exfalso
                    simp [Deps, Dep, at_, Is] at hD
                    simp_all
                  refine ⟨fun a_ wx hR hD => ⟨fun hgd K hK => ?_, fun hgd => ?_⟩, ?_⟩
                  · have hG : Grew wr wx := (Grew.drew _).trans hR
                    clear hgd
                    simp [Deps, Dep, at_, Is] at hD
                    obtain ⟨hd0, hd1, hd2⟩ := hD
                    go_simp
                    have hcn := same_c ra rlast A6 A8 n6 c6 c8 rl wx (rowO_C' (HXR3.out.grew hG) HN6.out.symm) (rowO_C' (HYR.out wx (HUR3.out.trans (Upd.of_grew hG))) HN6.out.symm) HN6.out.symm hc6 hc8 (by omega)
                    with_reducible refine hcn.mono ?_
                    clear hcn
                    rintro e wy ⟨v, rfl, hv, hg⟩
                    exact hK _ _ hg hv
                  · have hG : Grew wr wx := (Grew.drew _).trans hR
                    exfalso
                    simp [Deps, Dep, at_, Is] at hD
                    simp_all
                  refine ⟨fun a_ wx hR hD K hK => ?_, ?_⟩
                  · have hG : Grew wr wx := (Grew.drew _).trans hR
                    simp [Deps, Dep, at_, Is] at hD
                    obtain ⟨hd0, hd1⟩ := hD
                    go_simp
                    exact hK _ _ (Grew.refl _) rfl
                  refine ⟨fun a_ wx hR hD K hK => ?_, ?_⟩
                  · have hG : Grew wr wx := (Grew.drew _).trans hR
                    simp [Deps, Dep, at_, Is] at hD
                    go_simp
                    exact hK _ _ (Grew.refl _) rfl
                  refine ⟨fun a_ wx hR hD => ⟨fun hgd K hK => ?_, fun hgd => ?_⟩, ?_⟩
                  · have hG : Grew wr wx := (Grew.drew _).trans hR
                    clear hgd
                    simp [Deps, Dep, at_, Is] at hD
                    obtain ⟨hd0, hd1⟩ := hD
                    go_simp
                    exact hK _ _ (Grew.refl _) rfl
                  · have hG : Grew wr wx := (Grew.drew _).trans hR
                    exfalso
                    simp [Deps, Dep, at_, Is] at hD
                    simp_all
                  refine ⟨fun a_ wx hR hD => ⟨fun hgd K hK => ?_, fun hgd => ?_⟩, ?_⟩
                  · have hG : Grew wr wx := (Grew.drew _).trans hR
                    clear hgd
                    simp [Deps, Dep, at_, Is] at hD
                    obtain ⟨hd0, hd1⟩ := hD
                    go_simp
                    exact hK _ _ (Grew.refl _) rfl
                  · have hG : Grew wr wx := (Grew.drew _).trans hR
                    exfalso
                    simp [Deps, Dep, at_, Is] at hD
                    simp_all
                  trivial
                · show EndHold _ _ _ _ _ _ _
                  refine end_all (xs := [_, _, _, _, _, _, _, _, _, _]) ⟨rfl, rfl, rfl, rfl, rfl, rfl, rfl, rfl, rfl, rfl, trivial⟩ ?_
                  rintro w10 hR1 -
                  refine ⟨?_⟩
                  have hG_w10 : Grew wr w10 := (Grew.drew _).trans hR1
                  clear hR1
                  simp only [Act.put, List.setIfInBounds_toArray, List.set_cons_succ, List.set_cons_zero, dropN, putEach]
                  go_wp2_with fail
                  refine (lives_c w10).mono ?_
                  rintro e w11 ⟨_, rfl, rfl, hg11⟩
                  go_wp2_with fail
                  go_ret
                  exact ⟨_, rfl, rfl, Grew.trans HG0.out (Grew.trans HG2.out (HG2W.out _ (HUR3.out.trans (Upd.of_grew (Grew.trans hG_w10 hg11)))))⟩
  · cases sb with
    | false =>
      go_wp2_with fail
      refine (lives_c w1).mono ?_
      rintro e w2 ⟨_, rfl, rfl, hg2⟩
      go_wp2_with fail
      go_ret
      exact ⟨_, rfl, rfl, Grew.trans (Grew.trans HG0.out hg1) hg2⟩
    | true =>
      have hp1 : 1000 < ps := by
        rcases Nat.lt_or_ge 1000 ps with h | h
        · exact h
        · exact absurd ⟨rfl, h⟩ hgo
      have d1 : decide (1000 < ps) = true := decide_eq_true hp1
      have d1' : decide (1000 < (ps : Int)) = true := decide_eq_true (by omega)
      clear hgo
      go_wp2_with fail
      refine (lives_c w1).mono ?_
      rintro e w2 ⟨_, rfl, rfl, hg2⟩
      go_wp2_with fail
      go_ret
      exact ⟨_, rfl, rfl, Grew.trans (Grew.trans HG0.out hg1) hg2⟩
end Go.Proofs.Ytmifoihfpjomaaa.F

-- WSized
-- PRINTED BY print.sh 35421559b90ae4d0a3588c463048766b98c2df88dd9212a6774a882060cdf62d: not written by this session
-- PRINTED WORDS (module Derived/Print/Sized.lean): go-gate-2's, for the rows of laws over slices: an AI agent of Go's test side, Tue Nov 17 2026; no person has read it. Lean checks it.
namespace Go.Proofs.YtmifoihfpjomaaaW.PrintWords
open Go.ChangeShapes Go.WideShapes
/-- A row's slice of whole numbers is no longer than its weight allows. -/
theorem sized_ints {H : Type} {enc : TypeId × Value → H} {P : Program} {W : World} {base : Nat} {spare : Nat → Bool} {held : Bool} {t e : TypeId} {k : IntKind} {a : Option Addr} {len cap : Nat} {d : DataW H} {ps : List MemPlace} {ts : List TypeId} {ds : List (DataW H)} {j : Nat}
    (hsz : (DataW.weightsEach P ts ds).all (· ≤ reachBytes) = true) (ht : ts[j]? = some t) (hd : ds[j]? = some d) (hu : P.underlying t = some (.slice e)) (he : P.underlying e = some (.int k)) (hc : P.cellsOf e = 1) {B : Nat} (hB : P.bytesOf e = B)
    (h : DataW.Trod enc P W base spare held t (.slice a len cap) d ps) : len * B ≤ 140737488351232 := by
  obtain ⟨fuel, hf⟩ := h
  rcases open_ints hu he hc hf with ⟨hcs, _⟩ | ⟨x, l, c, zs, hcs, _, hl, _, hz, hx, _, _⟩
  · simp [Value.cells] at hcs
    obtain ⟨rfl, rfl, rfl⟩ := hcs
    simp
  · simp [Value.cells] at hcs
    obtain ⟨rfl, rfl, rfl⟩ := hcs
    obtain ⟨hx, _⟩ := Prod.mk.inj hx
    subst hx
    have z := sized_slice hsz ht hd hu
    rw [hB] at z
    have hl2 : len ≤ zs.length := by
      rw [hz]
      split
      · exact hl
      · exact Nat.le_refl _
    have h1 : (lits (H := H) k (zs.take len)).length + (lits (H := H) k (zs.drop len)).length = zs.length := by
      simp [lits]
      omega
    rw [h1] at z
    exact Nat.le_trans (Nat.mul_le_mul_right _ hl2) z
end Go.Proofs.YtmifoihfpjomaaaW.PrintWords

-- Open
namespace Go.Proofs.YtmifoihfpjomaaaO
set_option linter.unusedSimpArgs false
open Go Go.RowKit Go.ChangeShapes Go.WideShapes Go.ChangeAt Go.Proofs.YtmifoihfpjomaaaW.PrintWords
/-- cells of type t that can be read as data are some x of kind d -/
def Opens {α : Type} (P : Program) (t : TypeId) (d : Kd α) (ok : α → Prop) : Prop :=
  ∀ (H : Type) (enc : TypeId × Value → H) (W : World) (sp : Nat → Bool) (held : Bool) (fuel : Nat) (cs : List Value) (y : DataW H × List MemPlace), DataW.trod enc P W 0 sp held fuel t cs = some y → ∃ x, d.K W x cs ∧ ok x
section
variable {P : Program} {α : Type}
theorem opens_int {t : TypeId} {k : IntKind} (hu : P.underlying t = some (.int k)) : Opens P t (Kd.int k) (fun x => (Lit.int k x).wf = true) := by
  intro H enc W sp held fuel cs y h
  cases fuel with
  | zero => simp [DataW.trod] at h
  | succ n =>
    have key : ∃ n', cs = [.int k n'] ∧ (Lit.int k n').wf = true := by
      simp only [DataW.trod, hu] at h
      split at h <;> simp_all
    obtain ⟨x, rfl, hx⟩ := key
    exact ⟨x, rfl, hx⟩
theorem opens_bool {t : TypeId} (hu : P.underlying t = some .bool) : Opens P t Kd.bool (fun _ => True) := by
  intro H enc W sp held fuel cs y h
  cases fuel with
  | zero => simp [DataW.trod] at h
  | succ n =>
    have key : ∃ b, cs = [.bool b] := by
      simp only [DataW.trod, hu] at h
      split at h <;> simp_all
    obtain ⟨x, rfl⟩ := key
    exact ⟨x, rfl, trivial⟩
theorem opens_string {t : TypeId} (hu : P.underlying t = some .string) : Opens P t Kd.string (fun s => s.size ≤ maxLen) := by
  intro H enc W sp held fuel cs y h
  cases fuel with
  | zero => simp [DataW.trod] at h
  | succ n =>
    simp only [DataW.trod, hu] at h
    split at h <;> simp_all
    exact ⟨_, rfl, h.1⟩
theorem mapM_get {β γ : Type} {f : β → Option γ} : ∀ {l : List β} {ys : List γ}, l.mapM f = some ys → ys.length = l.length ∧ ∀ (i : Nat) (x : β), l[i]? = some x → ∃ y, f x = some y
  | [], ys, h => by simp at h; subst h; simp
  | a :: l, ys, h => by
    simp only [List.mapM_cons] at h
    obtain ⟨b, hb, h⟩ := Option.bind_eq_some_iff.1 h
    obtain ⟨bs, hbs, h⟩ := Option.bind_eq_some_iff.1 h
    simp at h
    subst h
    have ih := mapM_get hbs
    refine ⟨by simp [ih.1], fun i x hx => ?_⟩
    cases i with
    | zero => simp at hx; subst hx; exact ⟨b, hb⟩
    | succ i => simp at hx; exact ih.2 i x hx
theorem choose_list {ok : α → Prop} {Q : Nat → α → Prop} : ∀ n : Nat, (∀ i, i < n → ∃ x, Q i x ∧ ok x) → ∃ xs : List α, xs.length = n ∧ (∀ (i : Nat) (x : α), xs[i]? = some x → Q i x) ∧ ∀ x ∈ xs, ok x
  | 0, _ => ⟨[], rfl, by simp, by simp⟩
  | n + 1, h => by
    obtain ⟨xs, h1, h2, h3⟩ := choose_list n (fun i hi => h i (by omega))
    obtain ⟨x, hx, hk⟩ := h n (by omega)
    refine ⟨xs ++ [x], by simp [h1], fun i y hy => ?_, fun y hy => ?_⟩
    · rcases Nat.lt_or_ge i n with hlt | hge
      · rw [List.getElem?_append_left (by omega)] at hy; exact h2 i y hy
      · rw [List.getElem?_append_right (by omega)] at hy
        have : i = n := by
          rcases Nat.lt_or_ge n i with h' | h'
          · rw [List.getElem?_eq_none (by simp; omega)] at hy; cases hy
          · omega
        subst this
        simp [h1] at hy
        subst hy; exact hx
    · rcases List.mem_append.1 hy with hy | hy
      · exact h3 y hy
      · simp at hy; subst hy; exact hk
theorem cells_get {W : World} {a : Addr} {n : Nat} {cs : List Value} (h : W.cells? 0 a n = some cs) : cs.length = n ∧ ∀ (i : Nat) (u : Value), cs[i]? = some u → W.cell? (a.add i) = some u := by
  unfold World.cells? at h
  rw [if_pos (Nat.zero_le _)] at h
  have h1 := mapM_get h
  refine ⟨by simpa using h1.1, fun i u hu => ?_⟩
  have hi : i < n := by
    have := (List.getElem?_eq_some_iff.1 hu).1
    rw [h1.1] at this; simpa using this
  obtain ⟨y, hy⟩ := h1.2 i i (by simp [hi])
  have key : ∀ (l : List Nat) (ys : List Value), l.mapM (fun i => W.cell? (a.add i)) = some ys → ∀ (j : Nat), ys[j]? = (l[j]?).bind fun i => W.cell? (a.add i) := by
    intro l
    induction l with
    | nil => intro ys h j; simp at h; subst h; simp
    | cons b l ih =>
      intro ys h j
      simp only [List.mapM_cons] at h
      obtain ⟨c, hc, h⟩ := Option.bind_eq_some_iff.1 h
      obtain ⟨cs', hcs, h⟩ := Option.bind_eq_some_iff.1 h
      simp at h; subst h
      cases j with
      | zero => simp [hc]
      | succ j => simpa using ih cs' hcs j
  have := key _ _ h i
  rw [hu] at this
  simp [hi] at this
  exact this.symm
theorem opens_slice {t e : TypeId} {d : Kd α} {ok : α → Prop} (hu : P.underlying t = some (.slice e)) (he : Opens P e d ok) (hc : P.cellsOf e = d.sz) : Opens P t (Kd.slice e d) (fun xs => ∀ x ∈ xs, ok x) := by
  intro H enc W sp held fuel cs y h
  cases fuel with
  | zero => simp [DataW.trod] at h
  | succ n =>
    have key : cs = [.slice none 0 0] ∨ ∃ a len cap, cs = [.slice (some a) len cap] ∧ len ≤ cap ∧ cap ≤ maxLen ∧ ∃ elems, (List.range len).mapM (fun i => (W.cells? 0 (a.add (i * P.cellsOf e)) (P.cellsOf e)).bind (DataW.trod enc P W 0 sp held n e)) = some elems := by
      simp only [DataW.trod, hu] at h
      split at h <;> try (simp_all; done)
      rename_i e' a len cap heq
      simp only [Option.some.injEq, TypeDesc.slice.injEq] at heq
      subst heq
      split at h
      · rename_i hb
        obtain ⟨elems, he1, _⟩ := Option.bind_eq_some_iff.1 h
        exact .inr ⟨a, len, cap, rfl, hb.2.1, hb.2.2, elems, he1⟩
      · cases h
    rcases key with rfl | ⟨a, len, cap, rfl, h1, h2, elems, he1⟩
    · exact ⟨[], ⟨none, 0, rfl, by simp, by simp [Kd.C, ReadsRow]⟩, by simp⟩
    · rw [hc] at he1
      have hm := mapM_get he1
      obtain ⟨xs, x1, x2, x3⟩ := choose_list (ok := ok) (Q := fun i x => ∃ c, W.cells? 0 (a.add (i * d.sz)) d.sz = some c ∧ d.K W x c) len (fun i hi => by
        obtain ⟨z, hz⟩ := hm.2 i i (by simp [hi])
        obtain ⟨c, hc1, hc2⟩ := Option.bind_eq_some_iff.1 hz
        obtain ⟨x, hx, hk⟩ := he H enc W sp held n c z hc2
        exact ⟨x, ⟨c, hc1, hx⟩, hk⟩)
      refine ⟨xs, ⟨some a, cap, by rw [x1], by omega, ?_⟩, x3⟩
      refine ⟨rfl, by have : maxLen = 9223372036854775807 := rfl; omega, fun _ => ⟨a, rfl, fun j p hp => ?_⟩⟩
      obtain ⟨c, hc1, hk⟩ := x2 j p hp
      have hg := cells_get hc1
      refine ⟨c, hg.1, hk, fun i u hiu => ?_⟩
      have := hg.2 i u hiu
      rw [← this]
      congr 1
      unfold Addr.add
      by_cases z1 : j * d.sz = 0
      · rw [if_pos z1]
        by_cases z2 : i = 0
        · simp [z1, z2]
        · rw [if_neg (by omega), if_neg z2]; simp [z1]
      · rw [if_neg z1, if_neg (by omega)]
        by_cases z2 : i = 0
        · simp [z2]
        · rw [if_neg z2]; simp [Nat.add_assoc]
theorem opens_array {t e n : Nat} {d : Kd α} {ok : α → Prop} (hs : 0 < d.sz) (hu : P.underlying t = some (.array n e)) (he : Opens P e d ok) (hc : P.cellsOf e = d.sz) (ht : P.cellsOf t = n * d.sz) : Opens P t (Kd.arr n d hs) (fun xs => ∀ x ∈ xs, ok x) := by
  intro H enc W sp held fuel cs y h
  cases fuel with
  | zero => simp [DataW.trod] at h
  | succ m =>
    simp only [DataW.trod, hu] at h
    split at h
    · rename_i hl
      obtain ⟨ys, hy, _⟩ := Option.map_eq_some_iff.1 h
      have hm := mapM_get hy
      obtain ⟨xs, x1, x2, x3⟩ := choose_list (ok := ok) (Q := fun i x => d.K W x ((cs.drop (i * d.sz)).take d.sz)) n (fun i hi => by
        obtain ⟨z, hz⟩ := hm.2 i i (by simp [hi])
        rw [hc] at hz
        exact he H enc W sp held m _ z hz)
      exact ⟨xs, ⟨x1, by rw [x1, hl, ht], x2⟩, x3⟩
    · cases h
/-- an argument of a kind -/
theorem opens_arg {t : TypeId} {d : Kd α} {ok : α → Prop} (ho : Opens P t d ok) {H : Type} {enc : TypeId × Value → H} {W : World} {sp : Nat → Bool} {held : Bool} {v : Value} {y : DataW H} {ps : List MemPlace} (h : DataW.Trod enc P W 0 sp held t v y ps) : ∃ x, d.K W x v.cells.toList ∧ ok x := by
  obtain ⟨fuel, hf⟩ := h
  exact ho H enc W sp held fuel _ _ hf
theorem okWide_array {t n e : Nat} {r : Reach} {b0 : Nat} {v : Value} {W : World} (hu : P.underlying t = some (.array n e)) (h : Value.okWide P W r b0 t v) : ∃ cs, v = .agg cs ∧ cs.size = P.cellsOf t := by
  simp only [Value.okWide, hu] at h
  obtain ⟨cs, h1, h2, _⟩ := h
  exact ⟨cs, h1, h2⟩
theorem arr2 {d : Kd α} {hs : 0 < d.sz} (h1 : d.sz = 1) {W : World} {x : List α} {cs : Array Value} (h : (Kd.arr 2 d hs).K W x cs.toList) : ∃ a b c0 c1, x = [a, b] ∧ cs = #[c0, c1] ∧ d.K W a [c0] ∧ d.K W b [c1] := by
  obtain ⟨hl, hc, hr⟩ := h
  rw [hl, h1] at hc
  obtain ⟨l⟩ := cs
  match x, hl, l, hc, hr with
  | [a, b], _, [c0, c1], _, hr => exact ⟨a, b, c0, c1, rfl, rfl, by have := hr 0 a rfl; rw [h1] at this; exact this, by have := hr 1 b rfl; rw [h1] at this; exact this⟩
theorem arr3 {d : Kd α} {hs : 0 < d.sz} (h1 : d.sz = 1) {W : World} {x : List α} {cs : Array Value} (h : (Kd.arr 3 d hs).K W x cs.toList) : ∃ a b c c0 c1 c2, x = [a, b, c] ∧ cs = #[c0, c1, c2] ∧ d.K W a [c0] ∧ d.K W b [c1] ∧ d.K W c [c2] := by
  obtain ⟨hl, hc, hr⟩ := h
  rw [hl, h1] at hc
  obtain ⟨l⟩ := cs
  match x, hl, l, hc, hr with
  | [a, b, c], _, [c0, c1, c2], _, hr => exact ⟨a, b, c, c0, c1, c2, rfl, rfl, by have := hr 0 a rfl; rw [h1] at this; exact this, by have := hr 1 b rfl; rw [h1] at this; exact this, by have := hr 2 c rfl; rw [h1] at this; exact this⟩
end
end Go.Proofs.YtmifoihfpjomaaaO

-- OpenW
namespace Go.Proofs.YtmifoihfpjomaaaO
set_option linter.unusedSimpArgs false
open Go Go.RowKit Go.ChangeShapes Go.WideShapes Go.ChangeAt Go.Proofs.YtmifoihfpjomaaaW.PrintWords
/-- cells of type t that can be read as data of no more weight than is reached are some x of kind d -/
def OpensW {α : Type} (P : Program) (t : TypeId) (d : Kd α) (ok : α → Prop) : Prop :=
  ∀ (H : Type) (enc : TypeId × Value → H) (W : World) (sp : Nat → Bool) (held : Bool) (fuel : Nat) (cs : List Value) (y : DataW H × List MemPlace), DataW.trod enc P W 0 sp held fuel t cs = some y → (∀ n ∈ y.1.weights P t, n ≤ reachBytes) → ∃ x, d.K W x cs ∧ ok x
section
variable {P : Program} {α : Type}
theorem Opens.w {t : TypeId} {d : Kd α} {ok : α → Prop} (h : Opens P t d ok) : OpensW P t d ok := fun H enc W sp held fuel cs y hy _ => h H enc W sp held fuel cs y hy
theorem opensW_string {t : TypeId} (hu : P.underlying t = some .string) : OpensW P t Kd.string (fun s => s.size ≤ 140737488351232) := by
  intro H enc W sp held fuel cs y h hw
  cases fuel with
  | zero => simp [DataW.trod] at h
  | succ n =>
    have key : ∃ s, cs = [.string s] ∧ y.1 = .lit (.string s.data.toList) := by
      simp only [DataW.trod, hu] at h
      split at h <;> simp_all
      rw [← h.2]
    obtain ⟨s, rfl, hy⟩ := key
    refine ⟨s, rfl, ?_⟩
    have := hw s.size (by rw [hy]; simp [DataW.weights])
    exact this
theorem mapM_mem {β γ : Type} {f : β → Option γ} : ∀ {l : List β} {ys : List γ}, l.mapM f = some ys → ∀ (x : β) (z : γ), x ∈ l → f x = some z → z ∈ ys
  | [], ys, h, x, z, hx, _ => by simp at hx
  | a :: l, ys, h, x, z, hx, hz => by
    simp only [List.mapM_cons] at h
    obtain ⟨b, hb, h⟩ := Option.bind_eq_some_iff.1 h
    obtain ⟨bs, hbs, h⟩ := Option.bind_eq_some_iff.1 h
    simp at h
    subst h
    rcases List.mem_cons.1 hx with rfl | hx
    · rw [hb] at hz; injection hz with hz; subst hz; simp
    · exact List.mem_cons_of_mem _ (mapM_mem hbs x z hx hz)
theorem weightsAll_mem {H : Type} {e : TypeId} {d : DataW H} {n : Nat} : ∀ {ds : List (DataW H)}, d ∈ ds → n ∈ d.weights P e → n ∈ DataW.weightsAll P e ds
  | [], h, _ => by simp at h
  | a :: ds, h, hn => by
    simp only [DataW.weightsAll]
    rcases List.mem_cons.1 h with rfl | h
    · exact List.mem_append_left _ hn
    · exact List.mem_append_right _ (weightsAll_mem h hn)
theorem opensW_slice {t e : TypeId} {d : Kd α} {ok : α → Prop} (hu : P.underlying t = some (.slice e)) (he : OpensW P e d ok) (hc : P.cellsOf e = d.sz) : OpensW P t (Kd.slice e d) (fun xs => ∀ x ∈ xs, ok x) := by
  intro H enc W sp held fuel cs y h hw
  cases fuel with
  | zero => simp [DataW.trod] at h
  | succ n =>
    have key : cs = [.slice none 0 0] ∨ ∃ a len cap, cs = [.slice (some a) len cap] ∧ len ≤ cap ∧ cap ≤ maxLen ∧ ∃ elems rest, (List.range len).mapM (fun i => (W.cells? 0 (a.add (i * P.cellsOf e)) (P.cellsOf e)).bind (DataW.trod enc P W 0 sp held n e)) = some elems ∧ y.1 = .slice (elems.map (·.1)) rest := by
      simp only [DataW.trod, hu] at h
      split at h <;> try (simp_all; done)
      rename_i e' a len cap heq
      simp only [Option.some.injEq, TypeDesc.slice.injEq] at heq
      subst heq
      split at h
      · rename_i hb
        obtain ⟨elems, he1, h⟩ := Option.bind_eq_some_iff.1 h
        obtain ⟨rest, _, h⟩ := Option.map_eq_some_iff.1 h
        refine .inr ⟨a, len, cap, rfl, hb.2.1, hb.2.2, elems, rest.map (·.1), he1, ?_⟩
        rw [← h]
      · cases h
    rcases key with rfl | ⟨a, len, cap, rfl, h1, h2, elems, rest, he1, hy⟩
    · exact ⟨[], ⟨none, 0, rfl, by simp, by simp [Kd.C, ReadsRow]⟩, by simp⟩
    · rw [hc] at he1
      have hm := mapM_get he1
      obtain ⟨xs, x1, x2, x3⟩ := choose_list (ok := ok) (Q := fun i x => ∃ c, W.cells? 0 (a.add (i * d.sz)) d.sz = some c ∧ d.K W x c) len (fun i hi => by
        obtain ⟨z, hz⟩ := hm.2 i i (by simp [hi])
        have hmem := mapM_mem he1 i z (by simp [hi]) hz
        obtain ⟨c, hc1, hc2⟩ := Option.bind_eq_some_iff.1 hz
        obtain ⟨x, hx, hk⟩ := he H enc W sp held n c z hc2 (fun q hq => hw q (by
          rw [hy]
          simp only [DataW.weights, hu]
          exact List.mem_cons_of_mem _ (List.mem_append_left _ (weightsAll_mem (List.mem_map_of_mem hmem) hq))))
        exact ⟨x, ⟨c, hc1, hx⟩, hk⟩)
      refine ⟨xs, ⟨some a, cap, by rw [x1], by omega, ?_⟩, x3⟩
      refine ⟨rfl, by have : maxLen = 9223372036854775807 := rfl; omega, fun _ => ⟨a, rfl, fun j p hp => ?_⟩⟩
      obtain ⟨c, hc1, hk⟩ := x2 j p hp
      have hg := cells_get hc1
      refine ⟨c, hg.1, hk, fun i u hiu => ?_⟩
      have := hg.2 i u hiu
      rw [← this]
      congr 1
      unfold Addr.add
      by_cases z1 : j * d.sz = 0
      · rw [if_pos z1]
        by_cases z2 : i = 0
        · simp [z1, z2]
        · rw [if_neg (by omega), if_neg z2]; simp [z1]
      · rw [if_neg z1, if_neg (by omega)]
        by_cases z2 : i = 0
        · simp [z2]
        · rw [if_neg z2]; simp [Nat.add_assoc]
theorem opensW_array {t e n : Nat} {d : Kd α} {ok : α → Prop} (hs : 0 < d.sz) (hu : P.underlying t = some (.array n e)) (he : OpensW P e d ok) (hc : P.cellsOf e = d.sz) (ht : P.cellsOf t = n * d.sz) : OpensW P t (Kd.arr n d hs) (fun xs => ∀ x ∈ xs, ok x) := by
  intro H enc W sp held fuel cs y h hw
  cases fuel with
  | zero => simp [DataW.trod] at h
  | succ m =>
    simp only [DataW.trod, hu] at h
    split at h
    · rename_i hl
      obtain ⟨ys, hy, hyy⟩ := Option.map_eq_some_iff.1 h
      have hm := mapM_get hy
      obtain ⟨xs, x1, x2, x3⟩ := choose_list (ok := ok) (Q := fun i x => d.K W x ((cs.drop (i * d.sz)).take d.sz)) n (fun i hi => by
        obtain ⟨z, hz⟩ := hm.2 i i (by simp [hi])
        have hmem := mapM_mem hy i z (by simp [hi]) hz
        rw [hc] at hz
        exact he H enc W sp held m _ z hz (fun q hq => hw q (by
          rw [← hyy]
          simp only [DataW.weights, hu]
          exact weightsAll_mem (List.mem_map_of_mem hmem) hq)))
      exact ⟨xs, ⟨x1, by rw [x1, hl, ht], x2⟩, x3⟩
    · cases h
/-- an argument of a kind -/
theorem opensW_arg {t : TypeId} {d : Kd α} {ok : α → Prop} (ho : OpensW P t d ok) {H : Type} {enc : TypeId × Value → H} {W : World} {sp : Nat → Bool} {held : Bool} {v : Value} {y : DataW H} {ps : List MemPlace} {ts : List TypeId} {ds : List (DataW H)} {j : Nat}
    (hsz : (DataW.weightsEach P ts ds).all (· ≤ reachBytes) = true) (ht : ts[j]? = some t) (hd : ds[j]? = some y) (h : DataW.Trod enc P W 0 sp held t v y ps) : ∃ x, d.K W x v.cells.toList ∧ ok x := by
  obtain ⟨fuel, hf⟩ := h
  exact ho H enc W sp held fuel _ _ hf (fun n hn => by
    have := List.all_eq_true.1 hsz _ (DataW.weights_mem_each ht hd n hn)
    simpa using this)
end
end Go.Proofs.YtmifoihfpjomaaaO

-- OpenS
namespace Go.Proofs.YtmifoihfpjomaaaO
set_option linter.unusedSimpArgs false
open Go Go.RowKit Go.ChangeShapes Go.WideShapes Go.ChangeAt Go.Proofs.YtmifoihfpjomaaaW.PrintWords
section
variable {P : Program} {α β : Type}
/-- the fields from a place on -/
def OpensF (P : Program) (fs : List Field) (off : Nat) (d : Kd α) (ok : α → Prop) : Prop :=
  ∀ (H : Type) (enc : TypeId × Value → H) (W : World) (sp : Nat → Bool) (held : Bool) (fuel : Nat) (cs : List Value) (ys : List (DataW H × List MemPlace)),
    fs.mapM (fun f => DataW.trod enc P W 0 sp held fuel f.type ((cs.drop f.offset).take (P.cellsOf f.type))) = some ys → (∀ n ∈ DataW.weightsEach P (fs.map (·.type)) (ys.map (·.1)), n ≤ reachBytes) →
    ∃ x, d.K W x ((cs.drop off).take d.sz) ∧ ok x
theorem opensF_one {f : Field} {d : Kd α} {ok : α → Prop} (h : OpensW P f.type d ok) (hc : P.cellsOf f.type = d.sz) : OpensF P [f] f.offset d ok := by
  intro H enc W sp held fuel cs ys hy hw
  simp only [List.mapM_cons, List.mapM_nil] at hy
  obtain ⟨y, hy1, hy⟩ := Option.bind_eq_some_iff.1 hy
  simp at hy
  subst hy
  rw [hc] at hy1
  exact h H enc W sp held fuel _ y hy1 fun n hn => hw n (by simp [DataW.weightsEach, hn])
theorem opensF_cons {f : Field} {fs : List Field} {d : Kd α} {d2 : Kd β} {ok : α → Prop} {ok2 : β → Prop} (h : OpensW P f.type d ok) (hc : P.cellsOf f.type = d.sz) (h2 : OpensF P fs (f.offset + d.sz) d2 ok2) :
    OpensF P (f :: fs) f.offset (Kd.pair d d2) (fun x => ok x.1 ∧ ok2 x.2) := by
  intro H enc W sp held fuel cs ys hy hw
  simp only [List.mapM_cons] at hy
  obtain ⟨y, hy1, hy⟩ := Option.bind_eq_some_iff.1 hy
  obtain ⟨ys2, hy2, hy⟩ := Option.bind_eq_some_iff.1 hy
  simp at hy
  subst hy
  rw [hc] at hy1
  obtain ⟨x1, k1, o1⟩ := h H enc W sp held fuel _ y hy1 fun n hn => hw n (by simp [DataW.weightsEach, hn])
  obtain ⟨x2, k2, o2⟩ := h2 H enc W sp held fuel cs ys2 hy2 fun n hn => hw n (by
    simp only [List.map_cons, DataW.weightsEach]
    exact List.mem_append_right _ hn)
  refine ⟨(x1, x2), ⟨_, _, ?_, k1, k2⟩, o1, o2⟩
  show (cs.drop f.offset).take (d.sz + d2.sz) = _
  rw [List.take_add, List.drop_drop]
theorem opensW_struct {t : TypeId} {fs : Array Field} {d : Kd α} {ok : α → Prop} (hu : P.underlying t = some (.struct fs)) (h : OpensF P fs.toList 0 d ok) (hc : P.cellsOf t = d.sz) : OpensW P t d ok := by
  intro H enc W sp held fuel cs y hy hw
  cases fuel with
  | zero => simp [DataW.trod] at hy
  | succ n =>
    have key : cs.length = P.cellsOf t ∧ ∃ ys, fs.toList.mapM (fun f => DataW.trod enc P W 0 sp held n f.type ((cs.drop f.offset).take (P.cellsOf f.type))) = some ys ∧ y.1 = .agg (ys.map (·.1)) := by
      simp only [DataW.trod, hu] at hy
      split at hy
      · rename_i hl
        obtain ⟨ys, h1, h2⟩ := Option.map_eq_some_iff.1 hy
        exact ⟨hl, ys, h1, by rw [← h2]⟩
      · cases hy
    obtain ⟨hl, ys, hy1, hy2⟩ := key
    obtain ⟨x, hx, ho⟩ := h H enc W sp held n cs ys hy1 fun q hq => hw q (by
      rw [hy2]
      simp only [DataW.weights, hu]
      exact hq)
    refine ⟨x, ?_, ho⟩
    rw [List.drop_zero, ← hc, ← hl, List.take_length] at hx
    exact hx
theorem opensW_iso {t : TypeId} {d : Kd α} {ok : α → Prop} (f : β → α) (g : α → β) (hfg : ∀ x, f (g x) = x) (h : OpensW P t d ok) : OpensW P t (Kd.iso d f) (fun x => ok (f x)) := by
  intro H enc W sp held fuel cs y hy hw
  obtain ⟨x, hx, ho⟩ := h H enc W sp held fuel cs y hy hw
  exact ⟨g x, by show d.K W (f (g x)) cs; rw [hfg]; exact hx, by show ok (f (g x)); rw [hfg]; exact ho⟩
theorem okWide_struct {t : TypeId} {fs : Array Field} {r : Reach} {b0 : Nat} {v : Value} {W : World} (hu : P.underlying t = some (.struct fs)) (h : Value.okWide P W r b0 t v) : ∃ cs, v = .agg cs ∧ cs.size = P.cellsOf t := by
  simp only [Value.okWide, hu] at h
  obtain ⟨cs, h1, h2, _⟩ := h
  exact ⟨cs, h1, h2⟩
end
end Go.Proofs.YtmifoihfpjomaaaO

-- RowAuditAdds
namespace Go.Proofs.Ytmifoihfpjomaaa.auditAdds
open Go.ChangeShapes Go.WideShapes Go.ChangeAt Go.RowKit
open Go.ChangeMaps (open_string shut_string)
set_option linter.unusedVariables false
set_option linter.unusedSimpArgs false
theorem own : ownKnob Try.prog.godebug = none := by kernel_rfl
theorem laidOut : laidOutB Try.prog = true := by kernel_rfl
set_option maxRecDepth 100000 in
theorem lifted (os : Os) (started : os.Started) (H : Type) (enc : TypeId × Value → H) :
    ReturnsInHanded {} Try.checked os 4 .any (Rows.auditAddsSpec.pre6 enc Try.prog Try.f4 Rows.auditAddsRow.domain false) (Rows.auditAddsSpec.post enc Try.prog Try.f4 false true false false) := by
  refine returnsInHanded_of_change_sized (C := Try.checked) own started (by kernel_rfl) Try.func4
    (ChangeSpec.witness6 (enc := enc) (C := Try.checked) false ⟨#[], #[.agg #[.string ByteArray.empty, .int .i64 0, .slice none 0 0], .agg #[.int .i64 0, .int .i64 0, .int .i64 0, .string ByteArray.empty, .int .i64 0]], []⟩ 8 (by kernel_rfl) (by kernel_rfl) (by kernel_rfl) (by kernel_rfl)) ?_
  intro W base args ds gs before hval0 hW hcnd hsz0 _
  have hsz : (DataW.weightsEach Try.prog (Try.f4.params.toList ++ Rows.auditAddsSpec.plain.varTypes Try.prog) (ds ++ gs)).all (· ≤ reachBytes) = true := hsz0
  have hval : ∀ (j : Nat) t v, Try.f4.params[j]? = some t → args[j]? = some v → Value.okWide Try.prog W .any base t v := hval0
  have hW' := hW
  obtain ⟨p, q, hA0, hV, rfl, hfz, hnd⟩ := hW
  have hA : DataW.TrodAll enc Try.prog W 0 (fun _ => true) true Try.f4.params.toList args.toList ds p := hA0
  rw [Try.params4] at hA hval hsz
  obtain ⟨v0, vs0, d0, ds0, p0, q0, hargs, rfl, rfl, h0, r0⟩ := trodAll_cons hA
  obtain ⟨v1, vs1, d1, ds1, p1, q1, rfl, rfl, rfl, h1, r1⟩ := trodAll_cons r0
  obtain ⟨rfl, rfl, rfl⟩ := trodAll_nil r1
  obtain rfl : args = #[v0, v1] := by cases args; simp_all
  obtain ⟨rfl, rfl⟩ := trodVars_none hV
  have k0 := h0
  have lt0 : ∀ x ∈ p0, x.block < W.heap.size := by obtain ⟨m, hm⟩ := k0; exact DataW.trod_lt m _ _ _ hm
  obtain ⟨cs0, rfl, hcs0⟩ := Go.Proofs.YtmifoihfpjomaaaO.okWide_struct Try.underlying24 (hval 0 24 v0 rfl rfl)
  obtain ⟨⟨x0_0, x0_1, x0_2⟩, ⟨c0_0, r0_0, e0_0, K0_0, c0_1, c0_2, e0_1, K0_1, K0_2⟩, ok0_0, ok0_1, ok0_2⟩ := Go.Proofs.YtmifoihfpjomaaaO.opensW_arg (d := (Go.Proofs.YtmifoihfpjomaaaW.PrintWords.Kd.pair Go.Proofs.YtmifoihfpjomaaaW.PrintWords.Kd.string (Go.Proofs.YtmifoihfpjomaaaW.PrintWords.Kd.pair (Go.Proofs.YtmifoihfpjomaaaW.PrintWords.Kd.int .i64) (Go.Proofs.YtmifoihfpjomaaaW.PrintWords.Kd.slice 36 Go.Proofs.Ytmifoihfpjomaaa.F.k36)))) (Go.Proofs.YtmifoihfpjomaaaO.opensW_struct Try.underlying24 (Go.Proofs.YtmifoihfpjomaaaO.opensF_cons (Go.Proofs.YtmifoihfpjomaaaO.opensW_string Try.underlying9) (by kernel_rfl) (Go.Proofs.YtmifoihfpjomaaaO.opensF_cons (Go.Proofs.YtmifoihfpjomaaaO.Opens.w (Go.Proofs.YtmifoihfpjomaaaO.opens_int Try.underlying3)) (by kernel_rfl) (Go.Proofs.YtmifoihfpjomaaaO.opensF_one (Go.Proofs.YtmifoihfpjomaaaO.opensW_slice Try.underlying22 (show Go.Proofs.YtmifoihfpjomaaaO.OpensW _ _ Go.Proofs.Ytmifoihfpjomaaa.F.k36 _ from Go.Proofs.YtmifoihfpjomaaaO.opensW_iso (fun x : Go.Proofs.Ytmifoihfpjomaaa.F.S36 => (x.f0, x.f1, x.f2, x.f3, x.f4)) (fun p => ⟨p.1, p.2.1, p.2.2.1, p.2.2.2.1, p.2.2.2.2⟩) (fun _ => rfl) (Go.Proofs.YtmifoihfpjomaaaO.opensW_struct Try.underlying36 (Go.Proofs.YtmifoihfpjomaaaO.opensF_cons (Go.Proofs.YtmifoihfpjomaaaO.Opens.w (Go.Proofs.YtmifoihfpjomaaaO.opens_int Try.underlying3)) (by kernel_rfl) (Go.Proofs.YtmifoihfpjomaaaO.opensF_cons (Go.Proofs.YtmifoihfpjomaaaO.Opens.w (Go.Proofs.YtmifoihfpjomaaaO.opens_int Try.underlying3)) (by kernel_rfl) (Go.Proofs.YtmifoihfpjomaaaO.opensF_cons (Go.Proofs.YtmifoihfpjomaaaO.Opens.w (Go.Proofs.YtmifoihfpjomaaaO.opens_int Try.underlying3)) (by kernel_rfl) (Go.Proofs.YtmifoihfpjomaaaO.opensF_cons (Go.Proofs.YtmifoihfpjomaaaO.opensW_string Try.underlying9) (by kernel_rfl) (Go.Proofs.YtmifoihfpjomaaaO.opensF_one (Go.Proofs.YtmifoihfpjomaaaO.Opens.w (Go.Proofs.YtmifoihfpjomaaaO.opens_int Try.underlying34)) (by kernel_rfl)))))) (by kernel_rfl))) (by kernel_rfl)) (by kernel_rfl)))) (by kernel_rfl)) hsz (j := 0) (t := 24) rfl rfl h0
  obtain rfl := K0_0
  obtain rfl := K0_1
  obtain ⟨A0_2, cp0_2, ee0_2, hc0_2, hC0_2⟩ := K0_2
  subst ee0_2
  subst e0_1
  obtain rfl : cs0 = #[.string x0_0, .int .i64 x0_1, .slice A0_2 (List.length x0_2) cp0_2] := Array.ext' (by first | exact e0_0 | simpa using e0_0)
  have k1 := h1
  have lt1 : ∀ x ∈ p1, x.block < W.heap.size := by obtain ⟨m, hm⟩ := k1; exact DataW.trod_lt m _ _ _ hm
  obtain ⟨cs1, rfl, hcs1⟩ := Go.Proofs.YtmifoihfpjomaaaO.okWide_struct Try.underlying36 (hval 1 36 v1 rfl rfl)
  obtain ⟨⟨x1_0, x1_1, x1_2, x1_3, x1_4⟩, ⟨c1_0, r1_0, e1_0, K1_0, c1_1, r1_1, e1_1, K1_1, c1_2, r1_2, e1_2, K1_2, c1_3, c1_4, e1_3, K1_3, K1_4⟩, ok1_0, ok1_1, ok1_2, ok1_3, ok1_4⟩ := Go.Proofs.YtmifoihfpjomaaaO.opensW_arg (d := (Go.Proofs.YtmifoihfpjomaaaW.PrintWords.Kd.pair (Go.Proofs.YtmifoihfpjomaaaW.PrintWords.Kd.int .i64) (Go.Proofs.YtmifoihfpjomaaaW.PrintWords.Kd.pair (Go.Proofs.YtmifoihfpjomaaaW.PrintWords.Kd.int .i64) (Go.Proofs.YtmifoihfpjomaaaW.PrintWords.Kd.pair (Go.Proofs.YtmifoihfpjomaaaW.PrintWords.Kd.int .i64) (Go.Proofs.YtmifoihfpjomaaaW.PrintWords.Kd.pair Go.Proofs.YtmifoihfpjomaaaW.PrintWords.Kd.string (Go.Proofs.YtmifoihfpjomaaaW.PrintWords.Kd.int .i64)))))) (Go.Proofs.YtmifoihfpjomaaaO.opensW_struct Try.underlying36 (Go.Proofs.YtmifoihfpjomaaaO.opensF_cons (Go.Proofs.YtmifoihfpjomaaaO.Opens.w (Go.Proofs.YtmifoihfpjomaaaO.opens_int Try.underlying3)) (by kernel_rfl) (Go.Proofs.YtmifoihfpjomaaaO.opensF_cons (Go.Proofs.YtmifoihfpjomaaaO.Opens.w (Go.Proofs.YtmifoihfpjomaaaO.opens_int Try.underlying3)) (by kernel_rfl) (Go.Proofs.YtmifoihfpjomaaaO.opensF_cons (Go.Proofs.YtmifoihfpjomaaaO.Opens.w (Go.Proofs.YtmifoihfpjomaaaO.opens_int Try.underlying3)) (by kernel_rfl) (Go.Proofs.YtmifoihfpjomaaaO.opensF_cons (Go.Proofs.YtmifoihfpjomaaaO.opensW_string Try.underlying9) (by kernel_rfl) (Go.Proofs.YtmifoihfpjomaaaO.opensF_one (Go.Proofs.YtmifoihfpjomaaaO.Opens.w (Go.Proofs.YtmifoihfpjomaaaO.opens_int Try.underlying34)) (by kernel_rfl)))))) (by kernel_rfl)) hsz (j := 1) (t := 36) rfl rfl h1
  obtain rfl := K1_0
  obtain rfl := K1_1
  obtain rfl := K1_2
  obtain rfl := K1_3
  obtain rfl := K1_4
  subst e1_3
  subst e1_2
  subst e1_1
  obtain rfl : cs1 = #[.int .i64 x1_0, .int .i64 x1_1, .int .i64 x1_2, .string x1_3, .int .i64 x1_4] := Array.ext' (by first | exact e1_0 | simpa using e1_0)
  clear hA0 hval0 hsz0 hsz
  refine (Go.Proofs.YtmifoihfpjomaaaR.is_tells (Go.Proofs.Ytmifoihfpjomaaa.F.AuditAdds_c W x0_0 x0_1 A0_2 cp0_2 x0_2 x1_0 x1_1 x1_2 x1_3 x1_4 ok0_0 ok0_1 hC0_2 hc0_2 ok0_2 ok1_0 ok1_1 ok1_2 ok1_3 ok1_4)).mono fun e W' ⟨he, bel⟩ => ?_
  subst he
  exact ⟨_, rfl, _, _, _, [], _, [], hW', trodAll_mk1 (shut_bool Try.underlying4 _), (trodAll_cons_mk (Below.trod laidOut (by kernel_rfl) (of_decide_eq_true (by kernel_rfl)) k0 bel lt0) (trodAll_cons_mk (Below.trod laidOut (by kernel_rfl) (of_decide_eq_true (by kernel_rfl)) k1 bel lt1) trodAll_mk0)), rfl, bel.frame _, fun h => by cases h⟩
theorem over : Rows.auditAddsRow.holds Try.pinned (OpenSpec.ofChange Rows.auditAddsSpec) :=
  OpenClaim.holds_of_wide 4 Try.f4 rfl rfl rfl rfl rfl rfl rfl ⟨rfl, rfl, rfl, rfl, rfl⟩ rfl rfl rfl rfl rfl (by kernel_rfl) Try.func4 (by kernel_rfl)
    (of_decide_eq_true (by kernel_rfl)) (by unfold Func.isWrapper; first | (rw [if_pos (by decide +kernel)]; kernel_rfl) | (rw [if_neg (by decide +kernel)]; exact ⟨rfl, rfl⟩))
    (fun os started H enc _ => lifted os started H enc)
end Go.Proofs.Ytmifoihfpjomaaa.auditAdds
namespace Go.Proofs.Ytmifoihfpjomaaa
/-- The row, under a short name, for the claim. -/
theorem auditAdds_holds : Rows.AuditAddsSaid := auditAdds.over
#print axioms auditAdds_holds
end Go.Proofs.Ytmifoihfpjomaaa
