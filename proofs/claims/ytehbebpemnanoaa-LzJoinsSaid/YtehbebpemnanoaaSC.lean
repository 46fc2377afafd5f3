/- Texts of this seat laid together: LzJ, LzK, LzV, LzP, Open, OpenW, OpenS. -/
import Derived.Test.YtehbebpemnanoaaSB
import Derived.Test.YtehbebpemnanoaaWArr
import Derived.SizedLaws
import Derived.ChangeSlices
import Derived.WideKeyArr2
import Derived.WalkKit
import Derived.ProofKit
import Derived.OpenShut

-- LzJ
namespace Go.Proofs.Ytehbebpemnanoaa.F
open Go Go.RowKit Go.Proofs.YtehbebpemnanoaaW.PrintWords Go.Proofs.YtehbebpemnanoaaW.PrintLast Go.Proofs.YtehbebpemnanoaaW.PrintMore Go.Proofs.YtehbebpemnanoaaM Go.Proofs.YtehbebpemnanoaaR
attribute [local go_sem] max2_int min2_int max_two min_two
set_option linter.unusedSimpArgs false
set_option linter.unusedVariables false
set_option maxRecDepth 100000
/-- how many bytes tokens tell, as long as those are few; none: one can't be told -/
def jo : Nat → Bool → List Tk → Option (Nat × Bool)
  | told, long, [] => some (told, long)
  | told, long, t :: l => if rightT t = false then none else if long then jo told true l else if (told : Int) < t.b then none else jo (told + tellT t) (decide (65536 < told + tellT t)) l
def ro : Nat → List Tk → Option Nat
  | told, [] => some told
  | told, t :: l => if 65536 < told then some told else if (told : Int) < t.b then none else ro (told + tellT t) l
def joinR (l : List Tk) : Option (Nat × Bool) := jo 0 false l
theorem jo_long : ∀ (l : List Tk) (told : Nat), jo told true l = if l.all rightT then some (told, true) else none
  | [], told => by simp [jo]
  | t :: l, told => by
    simp only [jo, List.all_cons]
    by_cases h : rightT t = true
    · simp [h, jo_long l told]
    · simp [h]
theorem jo_ro : ∀ (l : List Tk) (told : Nat), told ≤ 65536 → jo told false l = if l.all rightT then (ro told l).map (fun k => (k, decide (65536 < k))) else none
  | [], told, h => by simp [jo, ro]; omega
  | t :: l, told, h => by
    simp only [jo, ro, List.all_cons]
    by_cases hr : rightT t = true
    rotate_left
    · simp [hr]
    · simp only [hr, Bool.true_eq_false, if_false, Bool.false_eq_true, Bool.true_and, if_neg (show ¬ 65536 < told from by omega)]
      by_cases hb : (told : Int) < t.b
      · rw [if_pos hb, if_pos hb]; split <;> rfl
      · rw [if_neg hb, if_neg hb]
        by_cases h2 : 65536 < told + tellT t
        · rw [decide_eq_true h2, jo_long]
          have : ro (told + tellT t) l = some (told + tellT t) := by
            cases l with
            | nil => rfl
            | cons x l => rw [ro, if_pos h2]
          rw [this]
          simp [h2]
        · rw [decide_eq_false h2, jo_ro l _ (by omega)]
theorem jo_good : ∀ (l : List Tk) (told k : Nat), told ≤ 65536 → jo told false l = some (k, false) → goodL told l ∧ k = told + tellL l ∧ k ≤ 65536
  | [], told, k, h, hj => by
    simp only [jo, Option.some.injEq, Prod.mk.injEq, and_true] at hj
    subst hj
    exact ⟨trivial, by simp [tellL], h⟩
  | t :: l, told, k, h, hj => by
    simp only [jo] at hj
    cases hr : rightT t
    · rw [hr] at hj; simp at hj
    · rw [hr] at hj
      simp only [Bool.true_eq_false, if_false, Bool.false_eq_true] at hj
      by_cases hb : (told : Int) < t.b
      · rw [if_pos hb] at hj; cases hj
      · rw [if_neg hb] at hj
        by_cases h2 : 65536 < told + tellT t
        · rw [decide_eq_true h2, jo_long] at hj
          split at hj
          · simp at hj
          · cases hj
        · rw [decide_eq_false h2] at hj
          obtain ⟨h3, h4, h5⟩ := jo_good l _ k (by omega) hj
          rw [tellL_cons]
          exact ⟨⟨hr, by omega, h3⟩, by omega, h5⟩
/-- what Join returns -/
def JoinV (base : Nat) (l : List Tk) : World → Value → Prop := match joinR l with
  | none => fun w v => v = .tuple #[.slice none 0 0, .int .i64 1]
  | some (told, true) => fun w v => v = .tuple #[.slice none 0 0, .int .i64 2]
  | some (told, false) => fun w v => ∃ v0, v = .tuple #[v0, .int .i64 0] ∧ Own8 base (layL told l) w v0
theorem tellT_int {t : Tk} (h : rightT t = true) : (t.d.size : Int) + t.s = (tellT t : Int) ∧ tellT t ≤ 200 := by
  unfold rightT at h; unfold tellT
  split at h
  · simp at h; omega
  · simp at h; omega
set_option maxHeartbeats 8000000 in
theorem join_c (w : World) (A : Option Addr) (n c : Nat) (l : List Tk) (hC : Kd.C k47 w A n (l.map tkL)) (hn : l.length = n) (hc : n ≤ c) (hn2 : n ≤ 100000) :
    Calls Try.prog 10 #[.slice A n c] w (Tells w (JoinV w.heap.size l)) := by
  have HC := Lib.hid hC
  have HN := Lib.hid hn
  obtain ⟨R, hR⟩ : ∃ R, R = JoinV w.heap.size l := ⟨_, rfl⟩
  rw [← hR]
  have HR := Lib.hid hR
  obtain ⟨J, hJ⟩ : ∃ J, J = joinR l := ⟨_, rfl⟩
  have HJ := Lib.hid hJ
  have HLAY := Lib.hid (show ∀ (k : Nat), J = some (k, false) → k ≤ 65536 ∧ ∀ w', Grew w w' → Calls Try.prog 20 #[.int .i64 (k : Int), .slice A n c] w' (Tells w' (Own8 w'.heap.size (layL k l))) from fun k hk => by
    rw [hJ] at hk
    obtain ⟨h1, h2, h3⟩ := jo_good l 0 k (by omega) hk
    exact ⟨h3, fun w' hg => lay_c w' A n c k l (Kd.C_below hC hg) hn hc (goodL_right l 0 h1) hn2 h3⟩)
  clear hC hn hR hJ
  go_enter Try.func10, Try.ntmps10
  go_wp2_with fail
  go_loopw [4, 5, 10] (fun tv bv iv wr => ∃ (pre suf : List Tk) (told : Nat) (long : Bool), iv = .int .i64 (pre.length : Int) ∧ tv = .int .i64 (told : Int) ∧ bv = .bool long ∧ l = pre ++ suf ∧ told ≤ 66000 ∧ (long = false → told ≤ 65536) ∧ J = jo told long suf ∧ Grew w wr) (fun _ _ iv _ => n - (intOf iv).toNat)
  case atStart => exact ⟨[], l, 0, false, rfl, rfl, rfl, rfl, by omega, fun _ => by omega, HJ.out, Grew.refl _⟩
  case round =>
    obtain ⟨pre, suf, told, long, rfl, rfl, rfl, hp, htl, hlo, hj, hgr⟩ := hrel
    have hnn := HN.out
    rw [hp, List.length_append] at hnn
    rcases suf with _ | ⟨t, suf⟩
    · have d1 : decide ((pre.length : Int) < (n : Int)) = false := decide_eq_false (by simp at hnn; omega)
      have d2 : decide (pre.length < n) = false := decide_eq_false (by simp at hnn; omega)
      simp only [jo] at hj
      clear hp hnn
      cases long with
      | true =>
        have HRE := Lib.hid (show R = fun w v => v = .tuple #[.slice none 0 0, .int .i64 2] from by rw [HR.out]; unfold JoinV; rw [← HJ.out, hj])
        clear hj
        go_wp2_with fail
        go_ret2
        rw [HRE.out]
        exact ⟨_, rfl, rfl, hgr⟩
      | false =>
        have HRE := Lib.hid (show R = fun w' v => ∃ v0, v = .tuple #[v0, .int .i64 0] ∧ Own8 w.heap.size (layL told l) w' v0 from by rw [HR.out]; unfold JoinV; rw [← HJ.out, hj])
        have HL := Lib.hid ((HLAY.out told hj).2)
        clear hj
        go_wp2_with fail
        refine (HL.out _ hgr).mono ?_
        rintro e w2 ⟨v2, rfl, ho2, hg2⟩
        have HO2 := Lib.hid ho2
        clear ho2
        go_wp2_with fail
        go_ret2
        rw [HRE.out]
        exact ⟨_, rfl, ⟨_, rfl, own_weaken HO2.out hgr.size⟩, hgr.trans hg2⟩
    · have hlt : pre.length < n := by simp at hnn; omega
      have d1 : decide ((pre.length : Int) < (n : Int)) = true := decide_eq_true (by omega)
      have d2 : decide (pre.length < n) = true := decide_eq_true hlt
      have i1 : (pre.length : Int) < (n : Int) := by omega
      obtain ⟨ad, hA, k0, k1, k2⟩ := tk_at HC.out pre suf t hp hlt
      subst hA
      have k0 := pw_cell_below hgr k0
      have k1 := pw_cell_below hgr k1
      have k2 := pw_cell_below hgr k2
      have HP := Lib.hid (show l = (pre ++ [t]) ++ suf from by rw [hp]; simp)
      have hw : IntKind.i64.wrap ((pre.length : Int) + 1) = (pre.length : Int) + 1 := by rw [IntWalk.i64_in _ (by omega)]
      simp only [jo] at hj
      obtain ⟨W2, hW2⟩ : ∃ W2, W2 = wr.alloc (.cells #[.int .i64 t.b, .int .i64 t.s, .string t.d] 47) := ⟨_, rfl⟩
      obtain ⟨g, hg⟩ : ∃ g, g = wr.heap.size := ⟨_, rfl⟩
      have hbl : Blk W2 g 47 [.int .i64 t.b, .int .i64 t.s, .string t.d] := by rw [hW2, hg]; exact Blk.new wr _ _
      have hg2 : Grew wr W2 := by rw [hW2]; exact Grew.alloc _ _
      have CT := Lib.hid (show ∀ wx, Grew W2 wx → wx.cell? ⟨g, 0, none⟩ = some (.int .i64 t.b) ∧ wx.cell? ⟨g, 1, none⟩ = some (.int .i64 t.s) ∧ wx.cell? ⟨g, 2, none⟩ = some (.string t.d) from fun wx h => ⟨by rw [(hbl.grew h).at_]; rfl, by rw [(hbl.grew h).at_]; rfl, by rw [(hbl.grew h).at_]; rfl⟩)
      have HWE := Lib.hid hW2
      have HGE := Lib.hid hg
      have HG2 := Lib.hid (hgr.trans hg2)
      have HRT := Lib.hid (fun w => right_c w t)
      clear hp hnn hbl hg2 hW2 hg
      cases hrt : rightT t with
      | false =>
        rw [hrt] at hj HRT
        rw [if_pos rfl] at hj
        have HRE := Lib.hid (show R = fun w v => v = .tuple #[.slice none 0 0, .int .i64 1] from by rw [HR.out]; unfold JoinV; rw [← HJ.out, hj])
        clear hj hrt
        go_wp2_with fail
        rw [← HWE.out, ← HGE.out]
        refine (HRT.out W2).mono ?_
        rintro e w3 ⟨_, rfl, rfl, hg3⟩
        go_wp2_with fail
        go_ret2
        rw [HRE.out]
        exact ⟨_, rfl, rfl, HG2.out.trans hg3⟩
      | true =>
        obtain ⟨ht1, ht2⟩ := tellT_int hrt
        rw [hrt] at hj HRT
        rw [if_neg (by decide)] at hj
        cases long with
        | true =>
          simp only [if_true] at hj
          have HRE := Lib.hid hj
          clear hj hrt
          go_wp2_with fail
          rw [← HWE.out, ← HGE.out]
          refine (HRT.out W2).mono ?_
          rintro e w3 ⟨_, rfl, rfl, hg3⟩
          go_wp2_with fail
          go_roundw
          case rel => exact ⟨pre ++ [t], suf, told, true, by simp, rfl, rfl, HP.out, htl, (fun h => absurd h (by decide)), HRE.out, HG2.out.trans hg3⟩
          case measure => simp [intOf]; omega
        | false =>
          simp only [Bool.false_eq_true, if_false] at hj
          by_cases hb : (told : Int) < t.b
          · rw [if_pos hb] at hj
            have y1 : decide ((told : Int) < t.b) = true := decide_eq_true hb
            have HRE := Lib.hid (show R = fun w v => v = .tuple #[.slice none 0 0, .int .i64 1] from by rw [HR.out]; unfold JoinV; rw [← HJ.out, hj])
            clear hj hrt
            go_wp2_with fail
            rw [← HWE.out, ← HGE.out]
            refine (HRT.out W2).mono ?_
            rintro e w3 ⟨_, rfl, rfl, hg3⟩
            have c0 := (CT.out w3 hg3).1
            go_wp2_with fail
            go_ret2
            rw [HRE.out]
            exact ⟨_, rfl, rfl, HG2.out.trans hg3⟩
          · rw [if_neg hb] at hj
            have y1 : decide ((told : Int) < t.b) = false := decide_eq_false hb
            have htold := hlo rfl
            obtain ⟨tt, htt⟩ : ∃ tt, tt = tellT t := ⟨_, rfl⟩
            rw [← htt] at hj ht1 ht2
            obtain ⟨ds, hds⟩ : ∃ ds, ds = t.d.size := ⟨_, rfl⟩
            obtain ⟨ts, hts⟩ : ∃ ts, ts = t.s := ⟨_, rfl⟩
            have hds' := hds.symm
            rw [← hds, ← hts] at ht1
            rw [← hts] at CT HRT
            rw [← hts] at HWE
            rw [← hts] at k1
            have hts0 : 0 ≤ ts := by
              rw [hts]; unfold rightT at hrt; split at hrt <;> simp at hrt <;> omega
            have HT1 := Lib.hid ht1
            have hds2 : ds ≤ 200 := by omega
            have hts2 : ts ≤ 200 := by omega
            have hlong : ∃ lg, decide (65536 < told + tt) = lg ∧ decide ((65536 : Int) < (told : Int) + ((ds : Int) + ts)) = lg := ⟨_, rfl, by congr 1; rw [eq_iff_iff]; omega⟩
            obtain ⟨lg, hl1, hl2⟩ := hlong
            have HL1 := Lib.hid hl1
            rw [hl1] at hj
            have HRE := Lib.hid hj
            have HTT := Lib.hid (show (told : Int) + ((ds : Int) + ts) = ((told + tt : Nat) : Int) from by omega)
            have HB1 := Lib.hid (show told + tt ≤ 66000 from by omega)
            clear hj hrt ht1 htt hds hts hl1 hlo htl
            go_wp2_with fail
            rw [← HWE.out, ← HGE.out]
            refine (HRT.out W2).mono ?_
            rintro e w3 ⟨_, rfl, rfl, hg3⟩
            have c0 := (CT.out w3 hg3).1
            have c1 := (CT.out w3 hg3).2.1
            have c2 := (CT.out w3 hg3).2.2
            go_wp2_with fail
            go_roundw
            case rel => exact ⟨pre ++ [t], suf, told + tt, lg, by simp, by rw [HTT.out], rfl, HP.out, HB1.out, fun h => by have := HL1.out; rw [h] at this; simpa using this, HRE.out, HG2.out.trans hg3⟩
            case measure => simp [intOf]; omega
end Go.Proofs.Ytehbebpemnanoaa.F

-- LzK
namespace Go.Proofs.Ytehbebpemnanoaa.F
open Go Go.RowKit Go.Proofs.YtehbebpemnanoaaW.PrintWords Go.Proofs.YtehbebpemnanoaaW.PrintLast Go.Proofs.YtehbebpemnanoaaW.PrintMore Go.Proofs.YtehbebpemnanoaaM Go.Proofs.YtehbebpemnanoaaR
attribute [local go_sem] max2_int min2_int max_two min_two
set_option linter.unusedSimpArgs false
set_option linter.unusedVariables false
set_option maxRecDepth 100000
theorem rk_at {w : World} {A : Option Addr} {n : Nat} {x : List S46} (h : Kd.C k46 w A n x) (pre suf : List S46) (s : S46) (hl : x = pre ++ s :: suf) (hn : pre.length < n) : ∃ ad, A = some ad ∧ w.cell? (ad.add (pre.length * 3)) = some (.int .i64 (tkA s).b) ∧ w.cell? ⟨(ad.add (pre.length * 3)).block, (ad.add (pre.length * 3)).off + 1, none⟩ = some (.int .i64 (tkA s).s) ∧ w.cell? ⟨(ad.add (pre.length * 3)).block, (ad.add (pre.length * 3)).off + 2, none⟩ = some (.string (tkA s).d) := by
  obtain ⟨ad, hA, k0, k1, k2⟩ := at_T46 h (pre.length : Int) (by omega) (by omega)
  have : rd_T46 x (pre.length : Int) = s := by
    unfold rd_T46; rw [Int.toNat_natCast, hl]; simp [List.getD]
  rw [this, Int.toNat_natCast] at k0 k1 k2
  exact ⟨ad, hA, k0, k1, k2⟩
/-- what the reference's Join returns -/
def rjoinV (l : List Tk) : Value := match joinR l with
  | none => .tuple #[.string ⟨#[]⟩, .int .i64 1]
  | some (told, true) => .tuple #[.string ⟨#[]⟩, .int .i64 2]
  | some (told, false) => .tuple #[.string (strOfNums (layL told l)), .int .i64 0]
theorem conv_new (w : World) (o : Obj) (xs : List Int) (n : Nat) (hn : xs.length = n) (hm : n ≤ 1000) :
    (convert 25 9 (.slice (some ⟨w.heap.size + 1, 0, none⟩) n n)).run Try.prog ((w.alloc o).alloc (.cells (nums .u8 xs).toArray 5)) = .ok (.string (strOfNums xs)) ((w.alloc o).alloc (.cells (nums .u8 xs).toArray 5)) := by
  have hb := Blk.new (w.alloc o) 5 (nums .u8 xs)
  rw [show (w.alloc o).heap.size = w.heap.size + 1 from by simp] at hb
  have hC := hb.C (k := .u8) (by omega)
  rw [hn] at hC
  exact Kd.C_string (P := Try.prog) (c := n) Try.underlying25 Try.underlying5 Try.underlying9 hC
set_option maxHeartbeats 8000000 in
theorem rjoin_c (w : World) (A : Option Addr) (n c : Nat) (x : List S46) (hC : Kd.C k46 w A n x) (hn : x.length = n) (hc : n ≤ c) (hn2 : n ≤ 100000) :
    Calls Try.prog 12 #[.slice A n c] w (Tells w (Is (rjoinV (x.map tkA)))) := by
  have HC := Lib.hid hC
  have HN := Lib.hid hn
  obtain ⟨L, hL⟩ : ∃ L, L = x.map tkA := ⟨_, rfl⟩
  rw [← hL]
  have HL := Lib.hid hL
  have HJ := Lib.hid (jo_ro L 0 (by omega))
  clear hC hn hL
  go_enter Try.func12, Try.ntmps12
  go_wp2_with fail
  go_loopw [5] (fun iv wr => ∃ pre suf : List S46, iv = .int .i64 (pre.length : Int) ∧ x = pre ++ suf ∧ (pre.map tkA).all rightT = true ∧ Grew w wr) (fun iv _ => n - (intOf iv).toNat)
  case atStart => exact ⟨[], x, rfl, rfl, rfl, Grew.refl _⟩
  case round =>
    obtain ⟨pre, suf, rfl, hp, hall, hgr⟩ := hrel
    have hnn := HN.out
    rw [hp, List.length_append] at hnn
    rcases suf with _ | ⟨s, suf⟩
    · have d1 : decide ((pre.length : Int) < (n : Int)) = false := decide_eq_false (by simp at hnn; omega)
      have d2 : decide (pre.length < n) = false := decide_eq_false (by simp at hnn; omega)
      rw [List.append_nil] at hp
      subst hp
      rw [← HL.out] at hall
      have HJ2 := Lib.hid (show joinR L = (ro 0 L).map (fun k => (k, decide (65536 < k))) from by unfold joinR; rw [HJ.out, if_pos hall])
      have HR := Lib.hid (show ∀ t ∈ L, rightT t = true from fun t ht => List.all_eq_true.1 hall t ht)
      clear hall hnn
      go_wp2_with fail
      go_loopw [4, 6] (fun tv iv wr => ∃ (pre suf : List S46) (told : Nat), iv = .int .i64 (pre.length : Int) ∧ tv = .int .i64 (told : Int) ∧ x = pre ++ suf ∧ told ≤ 66000 ∧ ro 0 L = ro told (suf.map tkA) ∧ Grew w wr) (fun _ iv _ => n - (intOf iv).toNat)
      case atStart => exact ⟨[], x, 0, rfl, rfl, rfl, by omega, by rw [HL.out], hgr⟩
      case round =>
        obtain ⟨pre, suf, told, rfl, rfl, hp, htl, hro, hgr⟩ := hrel
        have hnn := HN.out
        rw [hp, List.length_append] at hnn
        by_cases hstop : suf = [] ∨ 65536 < told
        · have hK : ro 0 L = some told := by
            rw [hro]
            rcases hstop with h | h
            · rw [h]; rfl
            · cases suf with
              | nil => rfl
              | cons s suf => rw [List.map_cons, ro, if_pos h]
          have hex : (decide ((pre.length : Int) < (n : Int)) = false ∧ decide (pre.length < n) = false) ∨ (decide ((pre.length : Int) < (n : Int)) = true ∧ decide (pre.length < n) = true ∧ decide ((told : Int) ≤ 65536) = false ∧ decide (told ≤ 65536) = false) := by
            by_cases h : pre.length < n
            · refine .inr ⟨decide_eq_true (by omega), decide_eq_true h, ?_⟩
              rcases hstop with h2 | h2
              · rw [h2] at hnn; simp at hnn; omega
              · exact ⟨decide_eq_false (by omega), decide_eq_false (by omega)⟩
            · exact .inl ⟨decide_eq_false (by omega), decide_eq_false h⟩
          have HK := Lib.hid hK
          clear hro hp hnn hK hstop
          by_cases hlong : 65536 < told
          · have HV := Lib.hid (show rjoinV L = .tuple #[.string ⟨#[]⟩, .int .i64 2] from by
              unfold rjoinV
              rw [HJ2.out, HK.out]
              simp only [Option.map_some, decide_eq_true hlong])
            have y1 : decide ((65536 : Int) < (told : Int)) = true := decide_eq_true (by omega)
            have y2 : decide (65536 < told) = true := decide_eq_true hlong
            rcases hex with ⟨x1, x2⟩ | ⟨x1, x2, x3, x4⟩
            all_goals
              go_wp2_with fail
              go_ret2
              rw [HV.out]
              exact ⟨_, rfl, rfl, hgr⟩
          · have HV := Lib.hid (show rjoinV L = .tuple #[.string (strOfNums (layL told L)), .int .i64 0] from by
              unfold rjoinV
              rw [HJ2.out, HK.out]
              simp only [Option.map_some, decide_eq_false hlong])
            have y1 : decide ((65536 : Int) < (told : Int)) = false := decide_eq_false (by omega)
            have y2 : decide (65536 < told) = false := decide_eq_false hlong
            have hmw : IntKind.u64.wrap (told : Int) = (told : Int) := by rw [u64_wrap]; omega
            have hex2 : (decide ((pre.length : Int) < (n : Int)) = false ∧ decide (pre.length < n) = false) := by
              rcases hex with h | ⟨_, _, _, h⟩
              · exact h
              · exact absurd (of_decide_eq_false h) (by omega)
            obtain ⟨x1, x2⟩ := hex2
            clear hex
            go_wp2_with fail
            refine (rput_c told _ (by omega)).mono ?_
            rintro e w3 ⟨_, rfl, rfl, hg3⟩
            have hgr3 := hgr.trans hg3
            go_wp2_with fail
            clear x1 x2
            go_loopw [7, 8] (fun sv iv wr => ∃ pre suf : List S46, iv = .int .i64 (pre.length : Int) ∧ x = pre ++ suf ∧ sv = .string (strOfNums (layL told (pre.map tkA))) ∧ Grew w wr) (fun _ iv _ => n - (intOf iv).toNat)
            case atStart => exact ⟨[], x, rfl, rfl, by simp [layL], hgr3⟩
            case round =>
              obtain ⟨pre, suf, rfl, hp, rfl, hgr⟩ := hrel
              have hnn := HN.out
              rw [hp, List.length_append] at hnn
              rcases suf with _ | ⟨s, suf⟩
              · have d1 : decide ((pre.length : Int) < (n : Int)) = false := decide_eq_false (by simp at hnn; omega)
                have d2 : decide (pre.length < n) = false := decide_eq_false (by simp at hnn; omega)
                rw [List.append_nil] at hp
                have HP := Lib.hid hp
                clear hp hnn
                go_wp2_with fail
                go_ret2
                rw [HV.out, HL.out, HP.out]
                exact ⟨_, rfl, rfl, hgr⟩
              · have hlt : pre.length < n := by simp at hnn; omega
                have d1 : decide ((pre.length : Int) < (n : Int)) = true := decide_eq_true (by omega)
                have d2 : decide (pre.length < n) = true := decide_eq_true hlt
                have i1 : (pre.length : Int) < (n : Int) := by omega
                obtain ⟨ad, hA, k0, k1, k2⟩ := rk_at HC.out pre suf s hp hlt
                subst hA
                have k0 := pw_cell_below hgr k0
                have k1 := pw_cell_below hgr k1
                have k2 := pw_cell_below hgr k2
                have HP := Lib.hid (show x = (pre ++ [s]) ++ suf from by rw [hp]; simp)
                have hw : IntKind.i64.wrap ((pre.length : Int) + 1) = (pre.length : Int) + 1 := by rw [IntWalk.i64_in _ (by omega)]
                obtain ⟨t, ht⟩ : ∃ t, t = tkA s := ⟨_, rfl⟩
                rw [← ht] at k0 k1 k2
                have hrt := HR.out t (by rw [HL.out, hp, ht]; simp)
                obtain ⟨ll, hll⟩ : ∃ ll, ll = layL told (pre.map tkA) := ⟨_, rfl⟩
                have HLL := Lib.hid (show layL told ((pre ++ [s]).map tkA) = ll ++ tokB t from by rw [List.map_append, List.map_singleton, layL_snoc, hll, ht])
                have hlb : ll.length ≤ 10 + 129 * 100000 := by
                  have h1 : (layL told (pre.map tkA)).length ≤ 10 + 129 * pre.length := by
                    have hrp : ∀ t ∈ pre.map tkA, rightT t = true := fun t ht => HR.out t (by rw [HL.out, hp, List.map_append]; exact List.mem_append_left _ ht)
                    unfold layL
                    rw [List.length_append]
                    have h1 := putL_small (n := told) (by omega)
                    have h2 : ∀ p : List Tk, (∀ t ∈ p, rightT t = true) → (p.flatMap tokB).length ≤ 129 * p.length := by
                      intro p
                      induction p with
                      | nil => intro _; simp
                      | cons t p ih =>
                        intro hp
                        have h1 := tokB_len t (hp t (by simp))
                        have h2 := ih (fun t ht => hp t (by simp [ht]))
                        simp only [List.flatMap_cons, List.length_append, List.length_cons]
                        omega
                    have h3 := h2 _ hrp
                    rw [List.length_map] at h3
                    omega
                  rw [hll]; omega
                rw [← hll]
                obtain ⟨Z, hZ⟩ : ∃ Z, Z = strOfNums ll := ⟨_, rfl⟩
                rw [← hZ]
                have hzs : Z.size ≤ 13000000 := by rw [hZ, str_size]; omega
                have HZ := Lib.hid hZ
                clear hp hnn ht hll hZ hlb
                unfold rightT at hrt
                by_cases hd : t.d.size = 0
                · rw [if_pos hd] at hrt
                  simp only [Bool.and_eq_true, decide_eq_true_eq] at hrt
                  obtain ⟨⟨⟨r1, r2⟩, r3⟩, r4⟩ := hrt
                  have e1 : (t.d.toList.isEmpty) = true := by rw [(nil_iff _).2 hd]; rfl
                  have e2 : t.d.toList = [] := (nil_iff _).2 hd
                  have HTB := Lib.hid (show tokB t = [t.s + 125, (t.b - 1) / 256, (t.b - 1) % 256] from by unfold tokB; rw [if_pos hd])
                  have hcv := conv_new wr (.cells #[.int .i64 t.b, .int .i64 t.s, .string t.d] 46) [t.s + 125, (t.b - 1) / 256, (t.b - 1) % 256] 3 rfl (by omega)
                  obtain ⟨S3, hS3⟩ : ∃ S3, S3 = strOfNums [t.s + 125, (t.b - 1) / 256, (t.b - 1) % 256] := ⟨_, rfl⟩
                  have hcv2 : (convert 25 9 (.slice (some ⟨wr.heap.size + 1, 0, none⟩) 3 3)).run Try.prog ((wr.alloc (.cells #[.int .i64 t.b, .int .i64 t.s, .string t.d] 46)).alloc (.cells #[.int .u8 (t.s + 125), .int .u8 ((t.b - 1) / 256), .int .u8 ((t.b - 1) % 256)] 5)) = .ok (.string S3) ((wr.alloc (.cells #[.int .i64 t.b, .int .i64 t.s, .string t.d] 46)).alloc (.cells #[.int .u8 (t.s + 125), .int .u8 ((t.b - 1) / 256), .int .u8 ((t.b - 1) % 256)] 5)) := by rw [hS3]; exact hcv
                  have hsz : ¬ 9223372036854775807 < Z.size + S3.size := by rw [hS3, str_size]; simp; omega
                  have HF := Lib.hid (show Z ++ S3 = strOfNums (ll ++ tokB t) from by rw [HZ.out, hS3, str_append, HTB.out])
                  have HG := Lib.hid (hgr.trans ((Grew.alloc wr (.cells #[.int .i64 t.b, .int .i64 t.s, .string t.d] 46)).trans (Grew.alloc _ (.cells #[.int .u8 (t.s + 125), .int .u8 ((t.b - 1) / 256), .int .u8 ((t.b - 1) % 256)] 5))))
                  clear hd hcv hS3 hgr
                  go_wp2_with fail
                  go_roundw
                  case rel => exact ⟨pre ++ [s], suf, by simp, HP.out, by rw [HLL.out, ← HF.out], HG.out⟩
                  case measure => simp [intOf]; omega
                · rw [if_neg hd] at hrt
                  simp only [Bool.and_eq_true, decide_eq_true_eq] at hrt
                  have e1 : (t.d.toList.isEmpty) = false := by
                    rw [List.isEmpty_eq_false_iff]; exact fun h => hd ((nil_iff _).1 h)
                  have e2 : ¬ t.d.toList = [] := fun h => hd ((nil_iff _).1 h)
                  obtain ⟨ds, hds⟩ : ∃ ds, ds = t.d.size := ⟨_, rfl⟩
                  have hds' := hds.symm
                  have HTB := Lib.hid (show tokB t = ((ds : Int) - 1) :: bytesOf t.d from by unfold tokB; rw [if_neg hd, hds])
                  have h128 : ds ≤ 128 := by omega
                  have h1 : 1 ≤ ds := by omega
                  have HRR := Lib.hid hrt
                  have hcv := conv_new wr (.cells #[.int .i64 t.b, .int .i64 t.s, .string t.d] 46) [(ds : Int) - 1] 1 rfl (by omega)
                  obtain ⟨S3, hS3⟩ : ∃ S3, S3 = strOfNums [(ds : Int) - 1] := ⟨_, rfl⟩
                  have hcv2 : (convert 25 9 (.slice (some ⟨wr.heap.size + 1, 0, none⟩) 1 1)).run Try.prog ((wr.alloc (.cells #[.int .i64 t.b, .int .i64 t.s, .string t.d] 46)).alloc (.cells #[.int .u8 ((ds : Int) - 1)] 5)) = .ok (.string S3) ((wr.alloc (.cells #[.int .i64 t.b, .int .i64 t.s, .string t.d] 46)).alloc (.cells #[.int .u8 ((ds : Int) - 1)] 5)) := by rw [hS3]; exact hcv
                  have hs3 : S3.size = 1 := by rw [hS3, str_size]; rfl
                  have hsz : ¬ 9223372036854775807 < Z.size + S3.size := by rw [hs3]; omega
                  have hsz2 : ¬ 9223372036854775807 < (Z ++ S3).size + t.d.size := by rw [ByteArray.size_append, hs3, hds']; omega
                  have hsz3 : ¬ 9223372036854775807 < Z.size + S3.size + ds := by rw [hs3]; omega
                  have HF := Lib.hid (show Z ++ S3 ++ t.d = strOfNums (ll ++ tokB t) from by
                    rw [HZ.out, hS3, str_append, HTB.out]
                    conv => lhs; rw [← str_bytesOfL t.d]
                    rw [str_append]; simp)
                  have HG := Lib.hid (hgr.trans ((Grew.alloc wr (.cells #[.int .i64 t.b, .int .i64 t.s, .string t.d] 46)).trans (Grew.alloc _ (.cells #[.int .u8 ((ds : Int) - 1)] 5))))
                  clear hs3 hd hds hrt hcv hS3 hgr
                  go_wp2_with fail
                  go_roundw
                  case rel => exact ⟨pre ++ [s], suf, by simp, HP.out, by rw [HLL.out, ← HF.out], HG.out⟩
                  case measure => simp [intOf]; omega
        · rcases suf with _ | ⟨s, suf⟩
          · exact absurd (.inl rfl) hstop
          have hlong : ¬ 65536 < told := fun h => hstop (.inr h)
          have hlt : pre.length < n := by simp at hnn; omega
          have d1 : decide ((pre.length : Int) < (n : Int)) = true := decide_eq_true (by omega)
          have d2 : decide (pre.length < n) = true := decide_eq_true hlt
          have i1 : (pre.length : Int) < (n : Int) := by omega
          have x3 : decide ((told : Int) ≤ 65536) = true := decide_eq_true (by omega)
          have x4 : decide (told ≤ 65536) = true := decide_eq_true (by omega)
          obtain ⟨ad, hA, k0, k1, k2⟩ := rk_at HC.out pre suf s hp hlt
          subst hA
          have k0 := pw_cell_below hgr k0
          have k1 := pw_cell_below hgr k1
          have k2 := pw_cell_below hgr k2
          have HP := Lib.hid (show x = (pre ++ [s]) ++ suf from by rw [hp]; simp)
          have hw : IntKind.i64.wrap ((pre.length : Int) + 1) = (pre.length : Int) + 1 := by rw [IntWalk.i64_in _ (by omega)]
          obtain ⟨t, ht⟩ : ∃ t, t = tkA s := ⟨_, rfl⟩
          rw [List.map_cons, ro, if_neg hlong, ← ht] at hro
          rw [← ht] at k0 k1 k2
          have hrt := HR.out t (by rw [HL.out, hp, ht]; simp)
          obtain ⟨ht1, ht2⟩ := tellT_int hrt
          by_cases hb : (told : Int) < t.b
          · rw [if_pos hb] at hro
            have y1 : decide ((told : Int) < t.b) = true := decide_eq_true hb
            have HV := Lib.hid (show rjoinV L = .tuple #[.string ⟨#[]⟩, .int .i64 1] from by
              unfold rjoinV
              rw [HJ2.out, hro]; rfl)
            clear hro hp hnn ht hrt ht1 ht2 hstop
            go_wp2_with fail
            go_ret2
            rw [HV.out]
            exact ⟨_, rfl, rfl, hgr⟩
          · rw [if_neg hb] at hro
            have y1 : decide ((told : Int) < t.b) = false := decide_eq_false hb
            obtain ⟨tt, htt⟩ : ∃ tt, tt = tellT t := ⟨_, rfl⟩
            rw [← htt] at hro ht1 ht2
            obtain ⟨ds, hds⟩ : ∃ ds, ds = t.d.size := ⟨_, rfl⟩
            obtain ⟨ts, hts⟩ : ∃ ts, ts = t.s := ⟨_, rfl⟩
            have hds' := hds.symm
            rw [← hds, ← hts] at ht1
            rw [← hts] at k1
            have hts0 : 0 ≤ ts := by
              rw [hts]; unfold rightT at hrt; split at hrt <;> simp at hrt <;> omega
            have w1 : IntKind.i64.wrap ((told : Int) + (ds : Int)) = (told : Int) + (ds : Int) := by rw [IntWalk.i64_in _ (by omega)]
            have w2 : IntKind.i64.wrap ((told : Int) + (ds : Int) + ts) = (told : Int) + (ds : Int) + ts := by rw [IntWalk.i64_in _ (by omega)]
            have K1 := Lib.hid (fun wx (h : Grew wr wx) => pw_cell_below h k1)
            have K2 := Lib.hid (fun wx (h : Grew wr wx) => pw_cell_below h k2)
            have HRO := Lib.hid hro
            have HTT := Lib.hid (show (told : Int) + (ds : Int) + ts = ((told + tt : Nat) : Int) from by omega)
            have HB1 := Lib.hid (show told + tt ≤ 66000 from by omega)
            clear hro hp hnn ht hrt ht1 ht2 hstop htt hds hts k1 k2
            go_wp2_with fail
            apply region_grew [Is _, Is _, Is _, Is _, Is _, Is _, Is _, Is _, Is _, Is _, Is _, Is _, Is _] [([(4, none)], none), ([(0, none)], none), ([(6, none)], none), ([(40, some 1), (41, some 2)], none), ([(42, some 3)], none), ([(43, some 4)], none), ([(44, some 5)], none), ([(39, some 0), (45, some 6)], none), ([(0, none)], none), ([(6, none)], none), ([(47, some 8), (48, some 9)], none), ([(49, some 10)], none), ([(50, some 11)], none)] [(39, 0), (40, 1), (41, 2), (42, 3), (43, 4), (44, 5), (45, 6), (46, 7), (47, 8), (48, 9), (49, 10), (50, 11), (51, 12)] rfl (by kernel_rfl) (by kernel_rfl) (show Stable Grew _ from ⟨Is.stable _, Is.stable _, Is.stable _, Is.stable _, Is.stable _, Is.stable _, Is.stable _, Is.stable _, Is.stable _, Is.stable _, Is.stable _, Is.stable _, Is.stable _, trivial⟩)
            · show OpsHold _ _ _ _ _ _ _ _ _
              refine ⟨fun a_ wx hR hD K hK => ?_, ?_⟩
              · have hG : Grew wr wx := (Grew.drew _).trans hR
                simp [Deps, Dep, at_, Is] at hD
                go_simp
                exact hK _ _ (Grew.refl _) rfl
              refine ⟨fun a_ wx hR hD K hK => ?_, ?_⟩
              · have hG : Grew wr wx := (Grew.drew _).trans hR
                simp [Deps, Dep, at_, Is] at hD
                go_simp
                exact hK _ _ (Grew.refl _) rfl
              refine ⟨fun a_ wx hR hD K hK => ?_, ?_⟩
              · have hG : Grew wr wx := (Grew.drew _).trans hR
                simp [Deps, Dep, at_, Is] at hD
                go_simp
                exact hK _ _ (Grew.refl _) rfl
              refine ⟨fun a_ wx hR hD K hK => ?_, ?_⟩
              · have hG : Grew wr wx := (Grew.drew _).trans hR
                simp [Deps, Dep, at_, Is] at hD
                obtain ⟨hd0, hd1⟩ := hD
                go_simp
                exact hK _ _ (Grew.refl _) rfl
              refine ⟨fun a_ wx hR hD K hK => ?_, ?_⟩
              · have hG : Grew wr wx := (Grew.drew _).trans hR
                simp [Deps, Dep, at_, Is] at hD
                go_simp
                exact hK _ _ (Grew.refl _) rfl
              refine ⟨fun a_ wx hR hD K hK => ?_, ?_⟩
              · have hG : Grew wr wx := (Grew.drew _).trans hR
                simp [Deps, Dep, at_, Is] at hD
                have e_ := K2.out wx hG
                go_simp
                exact hK _ _ (Grew.refl _) rfl
              refine ⟨fun a_ wx hR hD K hK => ?_, ?_⟩
              · have hG : Grew wr wx := (Grew.drew _).trans hR
                simp [Deps, Dep, at_, Is] at hD
                go_simp
                exact hK _ _ (Grew.refl _) rfl
              refine ⟨fun a_ wx hR hD K hK => ?_, ?_⟩
              · have hG : Grew wr wx := (Grew.drew _).trans hR
                simp [Deps, Dep, at_, Is] at hD
                obtain ⟨hd0, hd1⟩ := hD
                go_simp
                exact hK _ _ (Grew.refl _) rfl
              refine ⟨fun a_ wx hR hD K hK => ?_, ?_⟩
              · have hG : Grew wr wx := (Grew.drew _).trans hR
                simp [Deps, Dep, at_, Is] at hD
                go_simp
                exact hK _ _ (Grew.refl _) rfl
              refine ⟨fun a_ wx hR hD K hK => ?_, ?_⟩
              · have hG : Grew wr wx := (Grew.drew _).trans hR
                simp [Deps, Dep, at_, Is] at hD
                go_simp
                exact hK _ _ (Grew.refl _) rfl
              refine ⟨fun a_ wx hR hD K hK => ?_, ?_⟩
              · have hG : Grew wr wx := (Grew.drew _).trans hR
                simp [Deps, Dep, at_, Is] at hD
                obtain ⟨hd0, hd1⟩ := hD
                go_simp
                exact hK _ _ (Grew.refl _) rfl
              refine ⟨fun a_ wx hR hD K hK => ?_, ?_⟩
              · have hG : Grew wr wx := (Grew.drew _).trans hR
                simp [Deps, Dep, at_, Is] at hD
                go_simp
                exact hK _ _ (Grew.refl _) rfl
              refine ⟨fun a_ wx hR hD K hK => ?_, ?_⟩
              · have hG : Grew wr wx := (Grew.drew _).trans hR
                simp [Deps, Dep, at_, Is] at hD
                have e_ := K1.out wx hG
                go_simp
                exact hK _ _ (Grew.refl _) rfl
              trivial
            · show EndHold _ _ _ _ _ _ _
              refine end_all (xs := [_, _, _, _, _, _, _, _, _, _, _, _, _]) ⟨rfl, rfl, rfl, rfl, rfl, rfl, rfl, rfl, rfl, rfl, rfl, rfl, rfl, trivial⟩ ?_
              rintro w3 hR1 -
              refine ⟨?_⟩
              have hG_w3 : Grew wr w3 := (Grew.drew _).trans hR1
              clear hR1
              simp only [Act.put, List.setIfInBounds_toArray, List.set_cons_succ, List.set_cons_zero, dropN, putEach]
              go_wp2_with fail
              go_roundw
              case rel => exact ⟨pre ++ [s], suf, told + tt, by simp, by rw [HTT.out], HP.out, HB1.out, HRO.out, hgr.trans hG_w3⟩
              case measure => simp [intOf]; omega
    · have hlt : pre.length < n := by simp at hnn; omega
      have d1 : decide ((pre.length : Int) < (n : Int)) = true := decide_eq_true (by omega)
      have d2 : decide (pre.length < n) = true := decide_eq_true hlt
      have i1 : (pre.length : Int) < (n : Int) := by omega
      obtain ⟨ad, hA, k0, k1, k2⟩ := rk_at HC.out pre suf s hp hlt
      subst hA
      have k0 := pw_cell_below hgr k0
      have k1 := pw_cell_below hgr k1
      have k2 := pw_cell_below hgr k2
      have HP := Lib.hid (show x = (pre ++ [s]) ++ suf from by rw [hp]; simp)
      have hw : IntKind.i64.wrap ((pre.length : Int) + 1) = (pre.length : Int) + 1 := by rw [IntWalk.i64_in _ (by omega)]
      obtain ⟨t, ht⟩ : ∃ t, t = tkA s := ⟨_, rfl⟩
      rw [← ht] at k0 k1 k2
      have HRT := Lib.hid (fun w => rright_c w t)
      have HALL := Lib.hid hall
      have HT := Lib.hid ht
      clear hp hnn hall ht
      cases hrt : rightT t with
      | false =>
        rw [hrt] at HRT
        have HV := Lib.hid (show rjoinV L = .tuple #[.string ⟨#[]⟩, .int .i64 1] from by
          unfold rjoinV joinR
          rw [HJ.out, if_neg]
          rw [HL.out, HP.out]
          simp [HT.out.symm, hrt])
        clear hrt
        go_wp2_with fail
        refine (HRT.out _).mono ?_
        rintro e w3 ⟨_, rfl, rfl, hg3⟩
        go_wp2_with fail
        go_ret2
        rw [HV.out]
        exact ⟨_, rfl, rfl, hgr.trans hg3⟩
      | true =>
        rw [hrt] at HRT
        have HA2 := Lib.hid (show ((pre ++ [s]).map tkA).all rightT = true from by
          rw [List.map_append, List.all_append, HALL.out]; simp [HT.out.symm, hrt])
        clear hrt
        go_wp2_with fail
        refine (HRT.out _).mono ?_
        rintro e w3 ⟨_, rfl, rfl, hg3⟩
        go_wp2_with fail
        go_roundw
        case rel => exact ⟨pre ++ [s], suf, by simp, HP.out, HA2.out, hgr.trans hg3⟩
        case measure => simp [intOf]; omega
end Go.Proofs.Ytehbebpemnanoaa.F

-- LzV
namespace Go.Proofs.Ytehbebpemnanoaa.F
open Go Go.RowKit Go.Proofs.YtehbebpemnanoaaW.PrintWords Go.Proofs.YtehbebpemnanoaaW.PrintLast Go.Proofs.YtehbebpemnanoaaW.PrintMore Go.Proofs.YtehbebpemnanoaaM Go.Proofs.YtehbebpemnanoaaR
attribute [local go_sem] max2_int min2_int max_two min_two
set_option linter.unusedSimpArgs false
set_option linter.unusedVariables false
set_option maxRecDepth 100000
theorem ex_size : sizeL [6, 1, 97, 98, 129, 0, 1] = (6, 0) := by decide +kernel
theorem ex_toks : tokensL [6, 1, 97, 98, 129, 0, 1] = some [⟨0, 0, strOfNums [97, 98]⟩, ⟨2, 4, ByteArray.empty⟩] := by
  unfold tokensL
  rw [ex_size, if_pos rfl]
  rw [show ((6, 0) : Int × Int).1.toNat = 6 from rfl, putL_lt (by decide)]
  rfl
theorem ex_exp : expL [⟨0, 0, strOfNums [97, 98]⟩, ⟨2, 4, ByteArray.empty⟩] = [97, 98, 97, 98, 97, 98] := by decide +kernel
theorem ex_str : strOfNums [97, 98, 97, 98, 97, 98] = ⟨#[97, 98, 97, 98, 97, 98]⟩ := rfl
theorem lives_c (w : World) : Calls Try.prog 9 #[] w (Tells w (Is (.bool true))) := by
  have hb := Blk.new w 5 (nums .u8 [6, 1, 97, 98, 129, 0, 1])
  have hU := unpack_c (w.alloc (.cells (nums .u8 [6, 1, 97, 98, 129, 0, 1]).toArray 5)) _ 7 [6, 1, 97, 98, 129, 0, 1] 6 (hb.C (k := .u8) (by decide)) (by decide) (by decide) (by decide) (by decide) (by decide)
  have hV : unpackV (w.alloc (.cells (nums .u8 [6, 1, 97, 98, 129, 0, 1]).toArray 5)).heap.size [6, 1, 97, 98, 129, 0, 1] 6 = fun w' v => ∃ v0, v = .tuple #[v0, .int .i64 0] ∧ Own8 (w.alloc (.cells (nums .u8 [6, 1, 97, 98, 129, 0, 1]).toArray 5)).heap.size [97, 98, 97, 98, 97, 98] w' v0 := by
    unfold unpackV
    rw [ex_size, if_neg (by decide), if_neg (by decide), ex_toks]
    simp only
    rw [ex_exp]
  rw [hV] at hU
  have HU := Lib.hid hU
  have hgw := Grew.alloc w (.cells (nums .u8 [6, 1, 97, 98, 129, 0, 1]).toArray 5)
  clear hU hV hb
  go_enter Try.func9, Try.ntmps9
  go_wp2_with fail
  refine HU.out.mono ?_
  rintro e w1 ⟨_, rfl, ⟨v0, rfl, hown⟩, hg1⟩
  obtain ⟨A0, c0, rfl, _, hc0, hC0⟩ := own_C hown
  have hcv := Kd.C_string (P := Try.prog) (c := c0) Try.underlying25 Try.underlying5 Try.underlying9 hC0
  rw [ex_str, show ([97, 98, 97, 98, 97, 98] : List Int).length = 6 from rfl] at hcv
  clear hown hC0 hc0
  go_wp2_with fail
  go_ret
  exact ⟨_, rfl, rfl, hgw.trans hg1⟩
end Go.Proofs.Ytehbebpemnanoaa.F

-- LzP
namespace Go.Proofs.Ytehbebpemnanoaa.F
open Go Go.RowKit Go.Proofs.YtehbebpemnanoaaW.PrintWords Go.Proofs.YtehbebpemnanoaaW.PrintLast Go.Proofs.YtehbebpemnanoaaW.PrintMore Go.Proofs.YtehbebpemnanoaaM Go.Proofs.YtehbebpemnanoaaR
attribute [local go_sem] max2_int min2_int max_two min_two
set_option linter.unusedSimpArgs false
set_option linter.unusedVariables false
set_option maxRecDepth 100000
theorem len_le_flat : ∀ L : List Tk, L.length ≤ (L.flatMap tokB).length
  | [] => by simp
  | t :: L => by
    have h1 := tokB_pos t
    have h2 := len_le_flat L
    simp only [List.flatMap_cons, List.length_append, List.length_cons]
    omega
theorem sizeL_lay {k : Nat} (L : List Tk) (hk : k ≤ 65536) (r : List Int) : sizeL (layL k L ++ r) = ((k : Int), 0) := by
  unfold sizeL layL
  have h := getL_put [] (L.flatMap tokB ++ r) k (by omega)
  rw [List.nil_append, show ((List.length ([] : List Int) : Nat) : Int) = 0 from rfl] at h
  rw [List.append_assoc, h, if_pos ⟨rfl, by simp; omega⟩]
theorem tokensL_lay {L : List Tk} (hg : goodL 0 L) (hk : tellL L ≤ 65536) : tokensL (layL (tellL L) L) = some L := by
  have hs := sizeL_lay L hk []
  rw [List.append_nil] at hs
  unfold tokensL
  rw [hs, if_pos rfl, Int.toNat_natCast]
  have hd : (layL (tellL L) L).drop (putL (tellL L)).length = L.flatMap tokB := by unfold layL; rw [List.drop_left']; rfl
  rw [hd]
  refine tokP_all L _ ?_ hg
  have := len_le_flat L
  unfold layL
  rw [List.length_append]
  omega
theorem layL_bytes {k : Nat} {L : List Tk} (hr : ∀ t ∈ L, rightT t = true) : ∀ x ∈ layL k L, 0 ≤ x ∧ x < 256 := by
  intro x hx
  unfold layL at hx
  rcases List.mem_append.1 hx with hx | hx
  · exact putL_bytes k x hx
  · obtain ⟨t, ht, hx⟩ := List.mem_flatMap.1 hx
    exact tokB_bytes t (hr t ht) x hx
theorem layL_len {k : Nat} (hk : k ≤ 65536) : ∀ {L : List Tk}, (∀ t ∈ L, rightT t = true) → (layL k L).length ≤ 10 + 129 * L.length := by
  intro L hr
  unfold layL
  rw [List.length_append]
  have h1 := putL_small hk
  have h2 : ∀ p : List Tk, (∀ t ∈ p, rightT t = true) → (p.flatMap tokB).length ≤ 129 * p.length := by
    intro p
    induction p with
    | nil => intro _; simp
    | cons t p ih =>
      intro hp
      have h1 := tokB_len t (hp t (by simp))
      have h2 := ih (fun t ht => hp t (by simp [ht]))
      simp only [List.flatMap_cons, List.length_append, List.length_cons]
      omega
  have := h2 L hr
  omega
theorem toList_beqL (a b : ByteArray) : (a.toList == b.toList) = decide (a = b) := by
  rw [Bool.eq_iff_iff]
  simp only [beq_iff_eq, decide_eq_true_eq]
  constructor
  · intro h
    rw [ByteArray.toList_eq, ByteArray.toList_eq] at h
    apply ByteArray.ext
    exact Array.toList_inj.1 h
  · rintro rfl; rfl
theorem conv_nil (w : World) : (convert 25 9 (.slice none 0 0)).run Try.prog w = .ok (.string ⟨#[]⟩) w :=
  Kd.C_string (P := Try.prog) (c := 0) Try.underlying25 Try.underlying5 Try.underlying9 (Kd.C_nil _ _)
end Go.Proofs.Ytehbebpemnanoaa.F

-- Open
namespace Go.Proofs.YtehbebpemnanoaaO
set_option linter.unusedSimpArgs false
open Go Go.RowKit Go.ChangeShapes Go.WideShapes Go.ChangeAt Go.Proofs.YtehbebpemnanoaaW.PrintWords
/-- cells of type t that can be read as data are some x of kind d -/
def Opens {α : Type} (P : Program) (t : TypeId) (d : Kd α) (ok : α → Prop) : Prop :=
  ∀ (H : Type) (enc : TypeId × Value → H) (W : World) (sp : Nat → Bool) (held : Bool) (fuel : Nat) (cs : List Value) (y : DataW H × List MemPlace), DataW.trod enc P W 0 sp held fuel t cs = some y → ∃ x, d.K W x cs ∧ ok x
section
variable {P : Program} {α : Type}
theorem opens_int {t : TypeId} {k : IntKind} (hu : P.underlying t = some (.int k)) : Opens P t (Kd.int k) (fun x => (Lit.int k x).wf = true) := by
  intro H enc W sp held fuel cs y h
  cases fuel with
  | zero => simp [DataW.trod] at h
  | succ n =>
    have key : ∃ n', cs = [.int k n'] ∧ (Lit.int k n').wf = true := by
      simp only [DataW.trod, hu] at h
      split at h <;> simp_all
    obtain ⟨x, rfl, hx⟩ := key
    exact ⟨x, rfl, hx⟩
theorem opens_bool {t : TypeId} (hu : P.underlying t = some .bool) : Opens P t Kd.bool (fun _ => True) := by
  intro H enc W sp held fuel cs y h
  cases fuel with
  | zero => simp [DataW.trod] at h
  | succ n =>
    have key : ∃ b, cs = [.bool b] := by
      simp only [DataW.trod, hu] at h
      split at h <;> simp_all
    obtain ⟨x, rfl⟩ := key
    exact ⟨x, rfl, trivial⟩
theorem opens_string {t : TypeId} (hu : P.underlying t = some .string) : Opens P t Kd.string (fun s => s.size ≤ maxLen) := by
  intro H enc W sp held fuel cs y h
  cases fuel with
  | zero => simp [DataW.trod] at h
  | succ n =>
    simp only [DataW.trod, hu] at h
    split at h <;> simp_all
    exact ⟨_, rfl, h.1⟩
theorem mapM_get {β γ : Type} {f : β → Option γ} : ∀ {l : List β} {ys : List γ}, l.mapM f = some ys → ys.length = l.length ∧ ∀ (i : Nat) (x : β), l[i]? = some x → ∃ y, f x = some y
  | [], ys, h => by simp at h; subst h; simp
  | a :: l, ys, h => by
    simp only [List.mapM_cons] at h
    obtain ⟨b, hb, h⟩ := Option.bind_eq_some_iff.1 h
    obtain ⟨bs, hbs, h⟩ := Option.bind_eq_some_iff.1 h
    simp at h
    subst h
    have ih := mapM_get hbs
    refine ⟨by simp [ih.1], fun i x hx => ?_⟩
    cases i with
    | zero => simp at hx; subst hx; exact ⟨b, hb⟩
    | succ i => simp at hx; exact ih.2 i x hx
theorem choose_list {ok : α → Prop} {Q : Nat → α → Prop} : ∀ n : Nat, (∀ i, i < n → ∃ x, Q i x ∧ ok x) → ∃ xs : List α, xs.length = n ∧ (∀ (i : Nat) (x : α), xs[i]? = some x → Q i x) ∧ ∀ x ∈ xs, ok x
  | 0, _ => ⟨[], rfl, by simp, by simp⟩
  | n + 1, h => by
    obtain ⟨xs, h1, h2, h3⟩ := choose_list n (fun i hi => h i (by omega))
    obtain ⟨x, hx, hk⟩ := h n (by omega)
    refine ⟨xs ++ [x], by simp [h1], fun i y hy => ?_, fun y hy => ?_⟩
    · rcases Nat.lt_or_ge i n with hlt | hge
      · rw [List.getElem?_append_left (by omega)] at hy; exact h2 i y hy
      · rw [List.getElem?_append_right (by omega)] at hy
        have : i = n := by
          rcases Nat.lt_or_ge n i with h' | h'
          · rw [List.getElem?_eq_none (by simp; omega)] at hy; cases hy
          · omega
        subst this
        simp [h1] at hy
        subst hy; exact hx
    · rcases List.mem_append.1 hy with hy | hy
      · exact h3 y hy
      · simp at hy; subst hy; exact hk
theorem cells_get {W : World} {a : Addr} {n : Nat} {cs : List Value} (h : W.cells? 0 a n = some cs) : cs.length = n ∧ ∀ (i : Nat) (u : Value), cs[i]? = some u → W.cell? (a.add i) = some u := by
  unfold World.cells? at h
  rw [if_pos (Nat.zero_le _)] at h
  have h1 := mapM_get h
  refine ⟨by simpa using h1.1, fun i u hu => ?_⟩
  have hi : i < n := by
    have := (List.getElem?_eq_some_iff.1 hu).1
    rw [h1.1] at this; simpa using this
  obtain ⟨y, hy⟩ := h1.2 i i (by simp [hi])
  have key : ∀ (l : List Nat) (ys : List Value), l.mapM (fun i => W.cell? (a.add i)) = some ys → ∀ (j : Nat), ys[j]? = (l[j]?).bind fun i => W.cell? (a.add i) := by
    intro l
    induction l with
    | nil => intro ys h j; simp at h; subst h; simp
    | cons b l ih =>
      intro ys h j
      simp only [List.mapM_cons] at h
      obtain ⟨c, hc, h⟩ := Option.bind_eq_some_iff.1 h
      obtain ⟨cs', hcs, h⟩ := Option.bind_eq_some_iff.1 h
      simp at h; subst h
      cases j with
      | zero => simp [hc]
      | succ j => simpa using ih cs' hcs j
  have := key _ _ h i
  rw [hu] at this
  simp [hi] at this
  exact this.symm
theorem opens_slice {t e : TypeId} {d : Kd α} {ok : α → Prop} (hu : P.underlying t = some (.slice e)) (he : Opens P e d ok) (hc : P.cellsOf e = d.sz) : Opens P t (Kd.slice e d) (fun xs => ∀ x ∈ xs, ok x) := by
  intro H enc W sp held fuel cs y h
  cases fuel with
  | zero => simp [DataW.trod] at h
  | succ n =>
    have key : cs = [.slice none 0 0] ∨ ∃ a len cap, cs = [.slice (some a) len cap] ∧ len ≤ cap ∧ cap ≤ maxLen ∧ ∃ elems, (List.range len).mapM (fun i => (W.cells? 0 (a.add (i * P.cellsOf e)) (P.cellsOf e)).bind (DataW.trod enc P W 0 sp held n e)) = some elems := by
      simp only [DataW.trod, hu] at h
      split at h <;> try (simp_all; done)
      rename_i e' a len cap heq
      simp only [Option.some.injEq, TypeDesc.slice.injEq] at heq
      subst heq
      split at h
      · rename_i hb
        obtain ⟨elems, he1, _⟩ := Option.bind_eq_some_iff.1 h
        exact .inr ⟨a, len, cap, rfl, hb.2.1, hb.2.2, elems, he1⟩
      · cases h
    rcases key with rfl | ⟨a, len, cap, rfl, h1, h2, elems, he1⟩
    · exact ⟨[], ⟨none, 0, rfl, by simp, by simp [Kd.C, ReadsRow]⟩, by simp⟩
    · rw [hc] at he1
      have hm := mapM_get he1
      obtain ⟨xs, x1, x2, x3⟩ := choose_list (ok := ok) (Q := fun i x => ∃ c, W.cells? 0 (a.add (i * d.sz)) d.sz = some c ∧ d.K W x c) len (fun i hi => by
        obtain ⟨z, hz⟩ := hm.2 i i (by simp [hi])
        obtain ⟨c, hc1, hc2⟩ := Option.bind_eq_some_iff.1 hz
        obtain ⟨x, hx, hk⟩ := he H enc W sp held n c z hc2
        exact ⟨x, ⟨c, hc1, hx⟩, hk⟩)
      refine ⟨xs, ⟨some a, cap, by rw [x1], by omega, ?_⟩, x3⟩
      refine ⟨rfl, by have : maxLen = 9223372036854775807 := rfl; omega, fun _ => ⟨a, rfl, fun j p hp => ?_⟩⟩
      obtain ⟨c, hc1, hk⟩ := x2 j p hp
      have hg := cells_get hc1
      refine ⟨c, hg.1, hk, fun i u hiu => ?_⟩
      have := hg.2 i u hiu
      rw [← this]
      congr 1
      unfold Addr.add
      by_cases z1 : j * d.sz = 0
      · rw [if_pos z1]
        by_cases z2 : i = 0
        · simp [z1, z2]
        · rw [if_neg (by omega), if_neg z2]; simp [z1]
      · rw [if_neg z1, if_neg (by omega)]
        by_cases z2 : i = 0
        · simp [z2]
        · rw [if_neg z2]; simp [Nat.add_assoc]
theorem opens_array {t e n : Nat} {d : Kd α} {ok : α → Prop} (hs : 0 < d.sz) (hu : P.underlying t = some (.array n e)) (he : Opens P e d ok) (hc : P.cellsOf e = d.sz) (ht : P.cellsOf t = n * d.sz) : Opens P t (Kd.arr n d hs) (fun xs => ∀ x ∈ xs, ok x) := by
  intro H enc W sp held fuel cs y h
  cases fuel with
  | zero => simp [DataW.trod] at h
  | succ m =>
    simp only [DataW.trod, hu] at h
    split at h
    · rename_i hl
      obtain ⟨ys, hy, _⟩ := Option.map_eq_some_iff.1 h
      have hm := mapM_get hy
      obtain ⟨xs, x1, x2, x3⟩ := choose_list (ok := ok) (Q := fun i x => d.K W x ((cs.drop (i * d.sz)).take d.sz)) n (fun i hi => by
        obtain ⟨z, hz⟩ := hm.2 i i (by simp [hi])
        rw [hc] at hz
        exact he H enc W sp held m _ z hz)
      exact ⟨xs, ⟨x1, by rw [x1, hl, ht], x2⟩, x3⟩
    · cases h
/-- an argument of a kind -/
theorem opens_arg {t : TypeId} {d : Kd α} {ok : α → Prop} (ho : Opens P t d ok) {H : Type} {enc : TypeId × Value → H} {W : World} {sp : Nat → Bool} {held : Bool} {v : Value} {y : DataW H} {ps : List MemPlace} (h : DataW.Trod enc P W 0 sp held t v y ps) : ∃ x, d.K W x v.cells.toList ∧ ok x := by
  obtain ⟨fuel, hf⟩ := h
  exact ho H enc W sp held fuel _ _ hf
theorem okWide_array {t n e : Nat} {r : Reach} {b0 : Nat} {v : Value} {W : World} (hu : P.underlying t = some (.array n e)) (h : Value.okWide P W r b0 t v) : ∃ cs, v = .agg cs ∧ cs.size = P.cellsOf t := by
  simp only [Value.okWide, hu] at h
  obtain ⟨cs, h1, h2, _⟩ := h
  exact ⟨cs, h1, h2⟩
theorem arr2 {d : Kd α} {hs : 0 < d.sz} (h1 : d.sz = 1) {W : World} {x : List α} {cs : Array Value} (h : (Kd.arr 2 d hs).K W x cs.toList) : ∃ a b c0 c1, x = [a, b] ∧ cs = #[c0, c1] ∧ d.K W a [c0] ∧ d.K W b [c1] := by
  obtain ⟨hl, hc, hr⟩ := h
  rw [hl, h1] at hc
  obtain ⟨l⟩ := cs
  match x, hl, l, hc, hr with
  | [a, b], _, [c0, c1], _, hr => exact ⟨a, b, c0, c1, rfl, rfl, by have := hr 0 a rfl; rw [h1] at this; exact this, by have := hr 1 b rfl; rw [h1] at this; exact this⟩
theorem arr3 {d : Kd α} {hs : 0 < d.sz} (h1 : d.sz = 1) {W : World} {x : List α} {cs : Array Value} (h : (Kd.arr 3 d hs).K W x cs.toList) : ∃ a b c c0 c1 c2, x = [a, b, c] ∧ cs = #[c0, c1, c2] ∧ d.K W a [c0] ∧ d.K W b [c1] ∧ d.K W c [c2] := by
  obtain ⟨hl, hc, hr⟩ := h
  rw [hl, h1] at hc
  obtain ⟨l⟩ := cs
  match x, hl, l, hc, hr with
  | [a, b, c], _, [c0, c1, c2], _, hr => exact ⟨a, b, c, c0, c1, c2, rfl, rfl, by have := hr 0 a rfl; rw [h1] at this; exact this, by have := hr 1 b rfl; rw [h1] at this; exact this, by have := hr 2 c rfl; rw [h1] at this; exact this⟩
end
end Go.Proofs.YtehbebpemnanoaaO

-- OpenW
namespace Go.Proofs.YtehbebpemnanoaaO
set_option linter.unusedSimpArgs false
open Go Go.RowKit Go.ChangeShapes Go.WideShapes Go.ChangeAt Go.Proofs.YtehbebpemnanoaaW.PrintWords
/-- cells of type t that can be read as data of no more weight than is reached are some x of kind d -/
def OpensW {α : Type} (P : Program) (t : TypeId) (d : Kd α) (ok : α → Prop) : Prop :=
  ∀ (H : Type) (enc : TypeId × Value → H) (W : World) (sp : Nat → Bool) (held : Bool) (fuel : Nat) (cs : List Value) (y : DataW H × List MemPlace), DataW.trod enc P W 0 sp held fuel t cs = some y → (∀ n ∈ y.1.weights P t, n ≤ reachBytes) → ∃ x, d.K W x cs ∧ ok x
section
variable {P : Program} {α : Type}
theorem Opens.w {t : TypeId} {d : Kd α} {ok : α → Prop} (h : Opens P t d ok) : OpensW P t d ok := fun H enc W sp held fuel cs y hy _ => h H enc W sp held fuel cs y hy
theorem opensW_string {t : TypeId} (hu : P.underlying t = some .string) : OpensW P t Kd.string (fun s => s.size ≤ 140737488351232) := by
  intro H enc W sp held fuel cs y h hw
  cases fuel with
  | zero => simp [DataW.trod] at h
  | succ n =>
    have key : ∃ s, cs = [.string s] ∧ y.1 = .lit (.string s.data.toList) := by
      simp only [DataW.trod, hu] at h
      split at h <;> simp_all
      rw [← h.2]
    obtain ⟨s, rfl, hy⟩ := key
    refine ⟨s, rfl, ?_⟩
    have := hw s.size (by rw [hy]; simp [DataW.weights])
    exact this
theorem mapM_mem {β γ : Type} {f : β → Option γ} : ∀ {l : List β} {ys : List γ}, l.mapM f = some ys → ∀ (x : β) (z : γ), x ∈ l → f x = some z → z ∈ ys
  | [], ys, h, x, z, hx, _ => by simp at hx
  | a :: l, ys, h, x, z, hx, hz => by
    simp only [List.mapM_cons] at h
    obtain ⟨b, hb, h⟩ := Option.bind_eq_some_iff.1 h
    obtain ⟨bs, hbs, h⟩ := Option.bind_eq_some_iff.1 h
    simp at h
    subst h
    rcases List.mem_cons.1 hx with rfl | hx
    · rw [hb] at hz; injection hz with hz; subst hz; simp
    · exact List.mem_cons_of_mem _ (mapM_mem hbs x z hx hz)
theorem weightsAll_mem {H : Type} {e : TypeId} {d : DataW H} {n : Nat} : ∀ {ds : List (DataW H)}, d ∈ ds → n ∈ d.weights P e → n ∈ DataW.weightsAll P e ds
  | [], h, _ => by simp at h
  | a :: ds, h, hn => by
    simp only [DataW.weightsAll]
    rcases List.mem_cons.1 h with rfl | h
    · exact List.mem_append_left _ hn
    · exact List.mem_append_right _ (weightsAll_mem h hn)
theorem opensW_slice {t e : TypeId} {d : Kd α} {ok : α → Prop} (hu : P.underlying t = some (.slice e)) (he : OpensW P e d ok) (hc : P.cellsOf e = d.sz) : OpensW P t (Kd.slice e d) (fun xs => ∀ x ∈ xs, ok x) := by
  intro H enc W sp held fuel cs y h hw
  cases fuel with
  | zero => simp [DataW.trod] at h
  | succ n =>
    have key : cs = [.slice none 0 0] ∨ ∃ a len cap, cs = [.slice (some a) len cap] ∧ len ≤ cap ∧ cap ≤ maxLen ∧ ∃ elems rest, (List.range len).mapM (fun i => (W.cells? 0 (a.add (i * P.cellsOf e)) (P.cellsOf e)).bind (DataW.trod enc P W 0 sp held n e)) = some elems ∧ y.1 = .slice (elems.map (·.1)) rest := by
      simp only [DataW.trod, hu] at h
      split at h <;> try (simp_all; done)
      rename_i e' a len cap heq
      simp only [Option.some.injEq, TypeDesc.slice.injEq] at heq
      subst heq
      split at h
      · rename_i hb
        obtain ⟨elems, he1, h⟩ := Option.bind_eq_some_iff.1 h
        obtain ⟨rest, _, h⟩ := Option.map_eq_some_iff.1 h
        refine .inr ⟨a, len, cap, rfl, hb.2.1, hb.2.2, elems, rest.map (·.1), he1, ?_⟩
        rw [← h]
      · cases h
    rcases key with rfl | ⟨a, len, cap, rfl, h1, h2, elems, rest, he1, hy⟩
    · exact ⟨[], ⟨none, 0, rfl, by simp, by simp [Kd.C, ReadsRow]⟩, by simp⟩
    · rw [hc] at he1
      have hm := mapM_get he1
      obtain ⟨xs, x1, x2, x3⟩ := choose_list (ok := ok) (Q := fun i x => ∃ c, W.cells? 0 (a.add (i * d.sz)) d.sz = some c ∧ d.K W x c) len (fun i hi => by
        obtain ⟨z, hz⟩ := hm.2 i i (by simp [hi])
        have hmem := mapM_mem he1 i z (by simp [hi]) hz
        obtain ⟨c, hc1, hc2⟩ := Option.bind_eq_some_iff.1 hz
        obtain ⟨x, hx, hk⟩ := he H enc W sp held n c z hc2 (fun q hq => hw q (by
          rw [hy]
          simp only [DataW.weights, hu]
          exact List.mem_cons_of_mem _ (List.mem_append_left _ (weightsAll_mem (List.mem_map_of_mem hmem) hq))))
        exact ⟨x, ⟨c, hc1, hx⟩, hk⟩)
      refine ⟨xs, ⟨some a, cap, by rw [x1], by omega, ?_⟩, x3⟩
      refine ⟨rfl, by have : maxLen = 9223372036854775807 := rfl; omega, fun _ => ⟨a, rfl, fun j p hp => ?_⟩⟩
      obtain ⟨c, hc1, hk⟩ := x2 j p hp
      have hg := cells_get hc1
      refine ⟨c, hg.1, hk, fun i u hiu => ?_⟩
      have := hg.2 i u hiu
      rw [← this]
      congr 1
      unfold Addr.add
      by_cases z1 : j * d.sz = 0
      · rw [if_pos z1]
        by_cases z2 : i = 0
        · simp [z1, z2]
        · rw [if_neg (by omega), if_neg z2]; simp [z1]
      · rw [if_neg z1, if_neg (by omega)]
        by_cases z2 : i = 0
        · simp [z2]
        · rw [if_neg z2]; simp [Nat.add_assoc]
theorem opensW_array {t e n : Nat} {d : Kd α} {ok : α → Prop} (hs : 0 < d.sz) (hu : P.underlying t = some (.array n e)) (he : OpensW P e d ok) (hc : P.cellsOf e = d.sz) (ht : P.cellsOf t = n * d.sz) : OpensW P t (Kd.arr n d hs) (fun xs => ∀ x ∈ xs, ok x) := by
  intro H enc W sp held fuel cs y h hw
  cases fuel with
  | zero => simp [DataW.trod] at h
  | succ m =>
    simp only [DataW.trod, hu] at h
    split at h
    · rename_i hl
      obtain ⟨ys, hy, hyy⟩ := Option.map_eq_some_iff.1 h
      have hm := mapM_get hy
      obtain ⟨xs, x1, x2, x3⟩ := choose_list (ok := ok) (Q := fun i x => d.K W x ((cs.drop (i * d.sz)).take d.sz)) n (fun i hi => by
        obtain ⟨z, hz⟩ := hm.2 i i (by simp [hi])
        have hmem := mapM_mem hy i z (by simp [hi]) hz
        rw [hc] at hz
        exact he H enc W sp held m _ z hz (fun q hq => hw q (by
          rw [← hyy]
          simp only [DataW.weights, hu]
          exact weightsAll_mem (List.mem_map_of_mem hmem) hq)))
      exact ⟨xs, ⟨x1, by rw [x1, hl, ht], x2⟩, x3⟩
    · cases h
/-- an argument of a kind -/
theorem opensW_arg {t : TypeId} {d : Kd α} {ok : α → Prop} (ho : OpensW P t d ok) {H : Type} {enc : TypeId × Value → H} {W : World} {sp : Nat → Bool} {held : Bool} {v : Value} {y : DataW H} {ps : List MemPlace} {ts : List TypeId} {ds : List (DataW H)} {j : Nat}
    (hsz : (DataW.weightsEach P ts ds).all (· ≤ reachBytes) = true) (ht : ts[j]? = some t) (hd : ds[j]? = some y) (h : DataW.Trod enc P W 0 sp held t v y ps) : ∃ x, d.K W x v.cells.toList ∧ ok x := by
  obtain ⟨fuel, hf⟩ := h
  exact ho H enc W sp held fuel _ _ hf (fun n hn => by
    have := List.all_eq_true.1 hsz _ (DataW.weights_mem_each ht hd n hn)
    simpa using this)
end
end Go.Proofs.YtehbebpemnanoaaO

-- OpenS
namespace Go.Proofs.YtehbebpemnanoaaO
set_option linter.unusedSimpArgs false
open Go Go.RowKit Go.ChangeShapes Go.WideShapes Go.ChangeAt Go.Proofs.YtehbebpemnanoaaW.PrintWords
section
variable {P : Program} {α β : Type}
/-- the fields from a place on -/
def OpensF (P : Program) (fs : List Field) (off : Nat) (d : Kd α) (ok : α → Prop) : Prop :=
  ∀ (H : Type) (enc : TypeId × Value → H) (W : World) (sp : Nat → Bool) (held : Bool) (fuel : Nat) (cs : List Value) (ys : List (DataW H × List MemPlace)),
    fs.mapM (fun f => DataW.trod enc P W 0 sp held fuel f.type ((cs.drop f.offset).take (P.cellsOf f.type))) = some ys → (∀ n ∈ DataW.weightsEach P (fs.map (·.type)) (ys.map (·.1)), n ≤ reachBytes) →
    ∃ x, d.K W x ((cs.drop off).take d.sz) ∧ ok x
theorem opensF_one {f : Field} {d : Kd α} {ok : α → Prop} (h : OpensW P f.type d ok) (hc : P.cellsOf f.type = d.sz) : OpensF P [f] f.offset d ok := by
  intro H enc W sp held fuel cs ys hy hw
  simp only [List.mapM_cons, List.mapM_nil] at hy
  obtain ⟨y, hy1, hy⟩ := Option.bind_eq_some_iff.1 hy
  simp at hy
  subst hy
  rw [hc] at hy1
  exact h H enc W sp held fuel _ y hy1 fun n hn => hw n (by simp [DataW.weightsEach, hn])
theorem opensF_cons {f : Field} {fs : List Field} {d : Kd α} {d2 : Kd β} {ok : α → Prop} {ok2 : β → Prop} (h : OpensW P f.type d ok) (hc : P.cellsOf f.type = d.sz) (h2 : OpensF P fs (f.offset + d.sz) d2 ok2) :
    OpensF P (f :: fs) f.offset (Kd.pair d d2) (fun x => ok x.1 ∧ ok2 x.2) := by
  intro H enc W sp held fuel cs ys hy hw
  simp only [List.mapM_cons] at hy
  obtain ⟨y, hy1, hy⟩ := Option.bind_eq_some_iff.1 hy
  obtain ⟨ys2, hy2, hy⟩ := Option.bind_eq_some_iff.1 hy
  simp at hy
  subst hy
  rw [hc] at hy1
  obtain ⟨x1, k1, o1⟩ := h H enc W sp held fuel _ y hy1 fun n hn => hw n (by simp [DataW.weightsEach, hn])
  obtain ⟨x2, k2, o2⟩ := h2 H enc W sp held fuel cs ys2 hy2 fun n hn => hw n (by
    simp only [List.map_cons, DataW.weightsEach]
    exact List.mem_append_right _ hn)
  refine ⟨(x1, x2), ⟨_, _, ?_, k1, k2⟩, o1, o2⟩
  show (cs.drop f.offset).take (d.sz + d2.sz) = _
  rw [List.take_add, List.drop_drop]
theorem opensW_struct {t : TypeId} {fs : Array Field} {d : Kd α} {ok : α → Prop} (hu : P.underlying t = some (.struct fs)) (h : OpensF P fs.toList 0 d ok) (hc : P.cellsOf t = d.sz) : OpensW P t d ok := by
  intro H enc W sp held fuel cs y hy hw
  cases fuel with
  | zero => simp [DataW.trod] at hy
  | succ n =>
    have key : cs.length = P.cellsOf t ∧ ∃ ys, fs.toList.mapM (fun f => DataW.trod enc P W 0 sp held n f.type ((cs.drop f.offset).take (P.cellsOf f.type))) = some ys ∧ y.1 = .agg (ys.map (·.1)) := by
      simp only [DataW.trod, hu] at hy
      split at hy
      · rename_i hl
        obtain ⟨ys, h1, h2⟩ := Option.map_eq_some_iff.1 hy
        exact ⟨hl, ys, h1, by rw [← h2]⟩
      · cases hy
    obtain ⟨hl, ys, hy1, hy2⟩ := key
    obtain ⟨x, hx, ho⟩ := h H enc W sp held n cs ys hy1 fun q hq => hw q (by
      rw [hy2]
      simp only [DataW.weights, hu]
      exact hq)
    refine ⟨x, ?_, ho⟩
    rw [List.drop_zero, ← hc, ← hl, List.take_length] at hx
    exact hx
theorem opensW_iso {t : TypeId} {d : Kd α} {ok : α → Prop} (f : β → α) (g : α → β) (hfg : ∀ x, f (g x) = x) (h : OpensW P t d ok) : OpensW P t (Kd.iso d f) (fun x => ok (f x)) := by
  intro H enc W sp held fuel cs y hy hw
  obtain ⟨x, hx, ho⟩ := h H enc W sp held fuel cs y hy hw
  exact ⟨g x, by show d.K W (f (g x)) cs; rw [hfg]; exact hx, by show ok (f (g x)); rw [hfg]; exact ho⟩
theorem okWide_struct {t : TypeId} {fs : Array Field} {r : Reach} {b0 : Nat} {v : Value} {W : World} (hu : P.underlying t = some (.struct fs)) (h : Value.okWide P W r b0 t v) : ∃ cs, v = .agg cs ∧ cs.size = P.cellsOf t := by
  simp only [Value.okWide, hu] at h
  obtain ⟨cs, h1, h2, _⟩ := h
  exact ⟨cs, h1, h2⟩
end
end Go.Proofs.YtehbebpemnanoaaO
