/- The law NumOwn (under way: the walk up to the three puts). -/
import Derived.Test.YtoolcamnmefpgaaNumOwnM
import Derived.Test.YtoolcamnmefpgaaNumLists
namespace Go.Proofs.Ytoolcamnmefpgaa.F
open Go Go.RowKit Go.Proofs.YtoolcamnmefpgaaW.PrintWords Go.Proofs.YtoolcamnmefpgaaW.PrintLast Go.Proofs.YtoolcamnmefpgaaW.PrintMore Go.Proofs.YtoolcamnmefpgaaM Go.Proofs.YtoolcamnmefpgaaR
set_option linter.unusedSimpArgs false
set_option linter.unusedVariables false
set_option maxRecDepth 100000
theorem listL_bytes (ss : List ByteArray) : ∀ z ∈ listL ss, 0 ≤ z ∧ z < 256 := by
  intro z hz
  rcases List.mem_append.1 hz with h | h
  · exact putL_bytes _ z h
  · obtain ⟨s, _, h⟩ := List.mem_flatMap.1 h
    exact (List.mem_append.1 h).elim (putL_bytes _ z) (bytesOf_byte s z)
theorem listL_len (ss : List ByteArray) (hs : sizes ss ≤ 20000) (hn : ss.length ≤ 300) : (listL ss).length ≤ 23100 := by
  have := cat_len ss (by omega)
  have := putL_ten (n := ss.length) (by omega)
  unfold listL
  rw [List.length_append]; omega
theorem getD_zero (l : List Int) (m k : Nat) (h : k < m) : (l ++ List.replicate m (0 : Int)).getD (l.length + k) 0 = 0 := by simp [List.getD, h]
theorem p300 : (⟨#[172, 2]⟩ : ByteArray) = strOfNums (putL 300) := by
  have e : putL 300 = [172, 2] := by rw [putL_ge (by omega), putL_lt (by omega)]; rfl
  rw [e]; rfl
theorem pab : (⟨#[2, 97, 98]⟩ : ByteArray) = strOfNums (textL ⟨#[97, 98]⟩) := by
  have e : textL ⟨#[97, 98]⟩ = [2, 97, 98] := by
    unfold textL
    rw [show (⟨#[97, 98]⟩ : ByteArray).size = 2 from rfl, putL_lt (by omega)]; rfl
  rw [e]; rfl
set_option maxHeartbeats 4000000 in
theorem NumOwn_c (w : World) (A : Option Addr) (c : Nat) (l : List Int) (A1 : Option Addr) (c1 : Nat) (ss : List ByteArray) (hr : Kd.C (Kd.int .u8) w A l.length l) (hc : l.length ≤ c) (hm : l.length ≤ maxLen) (hy : l.length * 1 ≤ 140737488351232) (hw : ∀ x ∈ l, (Lit.int .u8 x).wf = true)
    (hr1 : Kd.C Kd.string w A1 ss.length ss) (hc1 : ss.length ≤ c1) (hss : ∀ s ∈ ss, s.size ≤ 140737488351232) :
    Calls Try.prog 9 #[.slice A l.length c, .slice A1 ss.length c1] w (Tells w (Is (.bool true))) := by
  have hb := Lib.hid (bytes_of hw)
  obtain ⟨b, hbt, hsm⟩ := smalls_c A c l A1 c1 ss hss hc hc1
  clear hw hss
  have HS := Lib.hid hsm
  have HB := Lib.hid hbt
  clear hsm hbt
  go_enter Try.func9, Try.ntmps9
  go_wp2_with fail
  refine (HS.out _ hr hr1).mono ?_
  rintro e w1 ⟨_, rfl, rfl, hg1⟩
  clear HS
  cases b with
  | false =>
    go_wp2_with fail
    refine (lives_c _).mono ?_
    rintro e w2 ⟨_, rfl, rfl, hg2⟩
    go_wp2
    go_ret
    exact ⟨_, rfl, rfl, hg1.trans hg2⟩
  | true =>
    obtain ⟨hl1, hl2, hl3⟩ := HB.out rfl
    clear HB
    have hmk := print_make (P := Try.prog) 22 5 .u8 1 Try.underlying22 info5 (by decide) (l.length + 64) (by omega)
    rw [show ((l.length + 64 : Nat) : Int) = (l.length : Int) + 64 from by omega] at hmk
    have hsz1 : w.heap.size ≤ w1.heap.size := hg1.size
    have hown1 := own_made w1 w.heap.size 5 .u8 (l.length + 64) hsz1 (by omega)
    have hgm : Grew w (w1.alloc (.cells (madeCells #[.int .u8 0] (l.length + 64)) 5)) := hg1.trans (Grew.alloc _ _)
    have HO := Lib.hid (Kd.R_of_own (enc := Value.int .u8) (h1 := fun _ => rfl) (ok := fun _ => True) (xs := List.replicate (l.length + 64) (0 : Int)) (by simpa [encs, nums] using hown1) (fun _ _ => trivial))
    clear hown1
    go_wp2_with (refine Kd.R_copy (enc := Value.int .u8) (h1 := fun _ => rfl) (0 : Int) (w0 := w) w.heap.size rfl (.tmp 25) (.tmp 26) 22 22 5 rfl Try.underlying22 rfl _ (List.replicate (l.length + 64) (0 : Int)) l A l.length c (fun _ => True) rfl rfl HO.out (Kd.C_below hr hgm) hgm hgm.size ?_; intro w3 hR3 hg3 hgr3)
    have hown3 : w3.ownsRow w.heap.size 5 1 (.slice (some ⟨w1.heap.size, 0, none⟩) (l.length + 64) (l.length + 64)) (l.length + 64) (nums .u8 (l ++ List.replicate 64 0)) := by
      have h := Kd.own_of_R hR3
      rw [show List.take (min l.length (List.replicate (l.length + 64) (0 : Int)).length) l ++ List.drop (min l.length (List.replicate (l.length + 64) (0 : Int)).length) (List.replicate (l.length + 64) (0 : Int)) = l ++ List.replicate 64 0 from by
        rw [List.length_replicate, Nat.min_eq_left (by omega), List.take_length, List.drop_replicate, show l.length + 64 - l.length = 64 from by omega]] at h
      rw [show (l ++ List.replicate 64 (0 : Int)).length = l.length + 64 from by simp] at h
      exact h
    clear hR3 hgr3 hgm hmk HO
    obtain ⟨A9, c9, hv9, -, -, hC9⟩ := own_C hown3
    obtain ⟨rfl, -, -⟩ := Value.slice.inj hv9
    have hC3 : Kd.C (Kd.int .u8) w3 (some ⟨w1.heap.size, 0, none⟩) l.length l := by
      have h := Kd.C_take (m := l.length) (by rw [show l.length + 64 = (l ++ List.replicate 64 (0 : Int)).length from by simp] at hC9; exact hC9) (by simp)
      rwa [List.take_left] at h
    clear hv9 hC9
    refine (put_o _ _ l 300 w3 hC3 (by omega) (by omega) (by omega)).mono ?_
    rintro e w4 ⟨v7, rfl, ho7, hg4⟩
    go_wp2_with fail
    refine (putT_o _ _ l _ w4 (Kd.C_below hC3 hg4) (by omega) (by omega) (by decide)).mono ?_
    rintro e w5 ⟨v8, rfl, ho8, hg5⟩
    go_wp2_with fail
    refine (putLL_o _ _ l A1 c1 ss w5 (Kd.C_below hC3 (hg4.trans hg5)) (by omega) (Kd.C_below hr1 (Grew.trans hg3 (hg4.trans hg5))) hc1 (by omega) hl3 hl2).mono ?_
    rintro e w6 ⟨v9, rfl, ho9, hg6⟩
    go_wp2_with fail
    have hown6 := pw_own_below hown3 (hg4.trans (hg5.trans hg6))
    go_loopw [10] (fun i wr => ∃ k : Nat, k ≤ 64 ∧ i = .int .i64 ((l.length + k : Nat) : Int) ∧ wr = w6) (fun i _ => l.length + 64 - (intOf i).toNat)
    case atStart => exact ⟨0, by omega, rfl, rfl⟩
    case round =>
      obtain ⟨k, hk, rfl, rfl⟩ := hrel
      by_cases hlt : k < 64
      · have hcell := (own_atN hown6 (l.length + k) (by omega)).1
        rw [show (l ++ List.replicate 64 (0 : Int)).getD (l.length + k) 0 = 0 from getD_zero l 64 k hlt] at hcell
        go_wp2_with fail
        go_roundw
        case rel => exact ⟨k + 1, by omega, by go_num, trivial⟩
        case measure => simp [intOf]; omega
      · obtain rfl : k = 64 := by omega
        go_wp2_with fail
        have hown7 := Own.stable _ _ _ _ _ (hg5.trans hg6) ho7
        have hown8 := Own.stable _ _ _ _ _ hg6 ho8
        have hgs3 : w.heap.size ≤ w3.heap.size := hg3.size
        have hgw6 : Grew w wr := Grew.trans hg3 (hg4.trans (hg5.trans hg6))
        have hlt3 : w1.heap.size < w3.heap.size := by
          obtain ⟨g, cap, hv, _, hgl, _⟩ := own_head hown3 (by omega)
          injection hv with h1
          injection h1 with h1
          injection h1 with h1
          omega
        have n7 : ∀ x : Nat, x < w3.heap.size → some x ≠ v7.ownBlock := fun x hx h => by
          have := own_base ho7 x h.symm
          omega
        have s4 : w3.heap.size ≤ w4.heap.size := hg4.size
        have s5 : w4.heap.size ≤ w5.heap.size := hg5.size
        have n8 : ∀ x : Nat, x < w4.heap.size → some x ≠ v8.ownBlock := fun x hx h => by
          have := own_base ho8 x h.symm
          omega
        have n9 : ∀ x : Nat, x < w5.heap.size → some x ≠ v9.ownBlock := fun x hx h => by
          have := own_base ho9 x h.symm
          omega
        go_loopw [11] (fun i wq => ∃ (k : Nat) (ys : List Int), k ≤ l.length + 64 ∧ ys.length = l.length + 64 ∧ i = .int .i64 (k : Int) ∧ wq.ownsRow w.heap.size 5 1 (.slice (some ⟨w1.heap.size, 0, none⟩) (l.length + 64) (l.length + 64)) (l.length + 64) (nums .u8 ys) ∧ Own w3.heap.size (l ++ putL 300) wq v7 ∧ Own w4.heap.size (l ++ textL ⟨#[97, 98]⟩) wq v8 ∧ Own w5.heap.size (l ++ listL ss) wq v9 ∧ Grew w wq) (fun i _ => l.length + 64 - (intOf i).toNat)
        case atStart => exact ⟨0, l ++ List.replicate 64 0, by omega, by simp, rfl, hown6, hown7, hown8, ho9, hgw6⟩
        case round =>
          obtain ⟨k, ys, hk2, hyl, rfl, ho5, ho7', ho8', ho9', hgq⟩ := hrel
          by_cases hlt2 : k < l.length + 64
          · have hcell := (own_atN ho5 k hlt2).1
            have hfrz := (own_atN ho5 k hlt2).2
            go_wp2_with fail
            go_roundw
            case rel => exact ⟨k + 1, _, by omega, by rw [List.length_set]; exact hyl, by go_num, own_storeN ho5 k _, own_setCell ho7' (n7 _ hlt3) _, own_setCell ho8' (n8 w1.heap.size (by omega)) _, own_setCell ho9' (n9 w1.heap.size (by omega)) _, Below.grown hgq (own_store ho5 (k : Int) _).2 hgq.size (fun z hz => by injection hz with hz; omega)⟩
            case measure => simp [intOf]; omega
          · obtain rfl : k = l.length + 64 := by omega
            have hpos : 0 < (l ++ listL ss).length := by
              have := putL_pos ss.length
              rw [List.length_append]; unfold listL; rw [List.length_append]; omega
            obtain ⟨g9, c9, rfl, hg9, hg9l, hc9⟩ := own_head ho9' hpos
            obtain ⟨A9, c9', hv9, _, _, hC9⟩ := own_C ho9'
            obtain ⟨rfl, -, -⟩ := Value.slice.inj hv9
            clear hv9
            have hll := listL_len ss hl3 hl2
            have hget := getLL_o _ c9 (l ++ listL ss) l.length 300 20000 wr hC9 hc9 (by rw [List.length_append]; omega) (fun z hz => (List.mem_append.1 hz).elim (hb.out z) (listL_bytes ss z)) (by omega) (by omega) (by omega) (by omega)
            rw [getLL_put l ss hl2 hl3] at hget
            rw [List.length_append] at hget
            have HG := Lib.hid hget
            clear hget
            obtain ⟨n9, hn9⟩ : ∃ n9, n9 = (l ++ listL ss).length := ⟨_, rfl⟩
            have hgs5 : w.heap.size ≤ w5.heap.size := Nat.le_trans hgs3 (Nat.le_trans s4 s5)
            have hn9b : n9 ≤ 50000 := by rw [hn9, List.length_append]; omega
            have hn9c : n9 = l.length + (listL ss).length := by rw [hn9, List.length_append]
            rw [← hn9c] at HG
            have HN9 := Lib.hid hn9
            have HN9c := Lib.hid hn9c
            have hqn : (l.length + (listL ss).length) = n9 := hn9c.symm
            have ho9q : wr.ownsRow w5.heap.size 5 1 (.slice (some ⟨g9, 0, none⟩) n9 c9) n9 (nums .u8 (l ++ listL ss)) := by
              have := ho9'
              unfold Own at this
              rw [← hn9] at this
              exact this
            have hlz : (l ++ listL ss).length = n9 := hn9.symm
            have Hlz := Lib.hid hlz
            clear hn9 hn9c hlz ho9' hC9 hpos hll
            go_wp2_with fail
            refine HG.out.mono ?_
            rintro e w8 ⟨_, rfl, ⟨v0, rfl, hstr⟩, hg8⟩
            have hsb : ∀ k, v0.ownBlock = some k → wr.heap.size ≤ k := fun k hk => own_base hstr k hk
            obtain ⟨wo, rfl⟩ : ∃ wo : World, wo = wr := ⟨_, rfl⟩
            have hr7 := Own.stable _ _ _ _ _ hg8 ho7'
            have hr8 := Own.stable _ _ _ _ _ hg8 ho8'
            have hr9 := pw_own_below ho9q hg8
            have hgw8 := hgq.trans hg8
            have h1g : w1.heap.size < w5.heap.size := by omega
            have hb7 : some g9 ≠ v7.ownBlock := fun h => by have := own_lt ho7 g9 h.symm; omega
            have hb8 : some g9 ≠ v8.ownBlock := fun h => by have := own_lt ho8 g9 h.symm; omega
            have hb0 : some g9 ≠ v0.ownBlock := fun h => by have := hsb g9 h.symm; omega
            simp only at hstr
            clear ho7' ho8' ho9q ho5 hown6 hown7 hown8 ho7 ho8 ho9 n7 n8 hsb
            go_wp2_with fail
            go_loopw [15] (fun i wq => ∃ (k : Nat) (zs : List Int), i = .int .i64 (k : Int) ∧ k ≤ n9 ∧ zs.length = n9 ∧ wq.ownsRow w5.heap.size 5 1 (.slice (some ⟨g9, 0, none⟩) n9 c9) n9 (nums .u8 zs) ∧ Own w3.heap.size (l ++ putL 300) wq v7 ∧ Own w4.heap.size (l ++ textL ⟨#[97, 98]⟩) wq v8 ∧ wq.ownsRow wo.heap.size 9 1 v0 ss.length (encs Value.string ss) ∧ Grew w wq) (fun i _ => n9 - (intOf i).toNat)
            case atStart => exact ⟨0, _, rfl, by omega, Hlz.out, hr9, hr7, hr8, hstr, hgw8⟩
            case round =>
              obtain ⟨k, zs, rfl, hk3, hzl, hz9, hz7, hz8, hz0, hgz⟩ := hrel
              by_cases hlt4 : k < n9
              · have hcell := (own_atN hz9 k hlt4).1
                have hfrz := (own_atN hz9 k hlt4).2
                go_wp2_with fail
                go_roundw
                case rel => exact ⟨k + 1, _, by go_num, by omega, by rw [List.length_set]; exact hzl, own_storeN hz9 k _, own_setCell hz7 hb7 _, own_setCell hz8 hb8 _, own_setCell hz0 hb0 _, Below.setCell hgz (by show w.heap.size ≤ g9; omega) _⟩
                case measure => simp [intOf]; omega
              · obtain rfl : k = n9 := by omega
                obtain ⟨A7, c7, rfl, _, hc7, hC7⟩ := own_C hz7
                obtain ⟨A8, c8, rfl, _, hc8, hC8⟩ := own_C hz8
                obtain ⟨A0, c0, rfl, _, hc0, hC0⟩ := own_strs hz0
                have hcv7 := Kd.C_string (P := Try.prog) (c := c7) Try.underlying22 Try.underlying5 Try.underlying9 hC7
                have hcv8 := Kd.C_string (P := Try.prog) (c := c8) Try.underlying22 Try.underlying5 Try.underlying9 hC8
                have hcv := Kd.C_string (P := Try.prog) (c := c) Try.underlying22 Try.underlying5 Try.underlying9 (Kd.C_below hr hgz)
                rw [List.length_append] at hcv7 hcv8
                have hq7 : strOfNums l ++ ⟨#[172, 2]⟩ = strOfNums (l ++ putL 300) := by
                  rw [← str_append, p300]
                have hq8 : strOfNums l ++ ⟨#[2, 97, 98]⟩ = strOfNums (l ++ textL ⟨#[97, 98]⟩) := by
                  rw [← str_append, pab]
                have hzz : (strOfNums l).size = l.length := str_size l
                have hz2 : (⟨#[172, 2]⟩ : ByteArray).size = 2 := rfl
                have hz3 : (⟨#[2, 97, 98]⟩ : ByteArray).size = 3 := rfl
                have HC0 := Lib.hid hC0
                have HR1 := Lib.hid (Kd.C_below hr1 hgz)
                clear hC0 hC7 hC8 hz9 hz7 hz8 hz0
                go_wp2_with fail
                refine (same_c A0 c0 A1 c1 ss _ HC0.out hc0 HR1.out hc1 (by omega)).mono ?_
                rintro e w10 ⟨_, rfl, rfl, hg10⟩
                go_wp2_with fail
                refine (lives_c _).mono ?_
                rintro e w11 ⟨_, rfl, rfl, hg11⟩
                go_wp2
                go_ret
                exact ⟨_, rfl, rfl, hgz.trans (hg10.trans hg11)⟩
end Go.Proofs.Ytoolcamnmefpgaa.F
