/- Texts of this seat laid together: SgnB, SgnG, RegB, Grp, SgnI, SgnN, SgnF, F19, F16, SgnH, Open, OpenW, OpenS. -/
import Derived.Test.YtkapekndfnefeaaSC
import Derived.Test.YtkapekndfnefeaaSA
import Derived.Maps.GroupsBeside
import Derived.Maps.Range
import Derived.Test.YtkapekndfnefeaaWArr
import Derived.SizedLaws
import Derived.ChangeSlices
import Derived.WideKeyArr2
import Derived.WalkKit
import Derived.ProofKit
import Derived.OpenShut

-- SgnB
namespace Go.Proofs.Ytkapekndfnefeaa.F
open Go Go.RowKit Go.Proofs.YtkapekndfnefeaaW.PrintWords Go.Proofs.YtkapekndfnefeaaW.PrintLast Go.Proofs.YtkapekndfnefeaaW.PrintMore Go.Proofs.YtkapekndfnefeaaM Go.Proofs.YtkapekndfnefeaaR
attribute [local go_sem] max2_int min2_int max_two min_two
set_option linter.unusedSimpArgs false
set_option linter.unusedVariables false
set_option maxRecDepth 100000
/-- block number m -/
def blkT (t : ByteArray) (s m : Nat) : ByteArray := t.extract (min (m * s) t.size) (min (m * s + s) t.size)
def cntT (t : ByteArray) (s : Nat) : Nat := (t.size + s - 1) / s
def blksT (t : ByteArray) (s m : Nat) : List ByteArray := (List.range m).map (blkT t s)
theorem blksT_succ (t : ByteArray) (s m : Nat) : blksT t s (m + 1) = blksT t s m ++ [blkT t s m] := by
  unfold blksT; rw [List.range_succ, List.map_append]; rfl
theorem blksT_len (t : ByteArray) (s m : Nat) : (blksT t s m).length = m := by simp [blksT]
theorem cnt_lt (t : ByteArray) (s m : Nat) (hs : 0 < s) : m < cntT t s ↔ m * s < t.size := by
  unfold cntT
  rw [Nat.lt_iff_add_one_le, Nat.le_div_iff_mul_le hs, Nat.add_mul]
  omega
theorem cat_blk (t : ByteArray) (s m : Nat) : t.extract 0 (min (m * s) t.size) ++ blkT t s m = t.extract 0 (min ((m + 1) * s) t.size) := by
  unfold blkT
  rw [ByteArray.extract_append_extract, Nat.add_mul]
  congr 1
  all_goals omega
theorem sign_l0 (t : ByteArray) (s : Nat) (hs : 0 < s) (hs2 : s ≤ 128) (ht : t.size ≤ 1024) : ∀ (d m k : Nat), cntT t s - m = d → m ≤ cntT t s → d < k →
    sign_Blocks.l0 k (t.extract (min (m * s) t.size) t.size) (s : Int) (blksT t s m) = some (blksT t s (cntT t s), 0) := by
  intro d
  induction d with
  | zero =>
    intro m k hd hm hk
    obtain ⟨k, rfl⟩ : ∃ q, k = q + 1 := ⟨k - 1, by omega⟩
    have hme : m = cntT t s := by omega
    have hge : ¬ m * s < t.size := fun h => by have := (cnt_lt t s m hs).2 h; omega
    rw [sign_Blocks.l0, if_neg (by rw [ByteArray.size_extract]; omega), hme]
  | succ d ih =>
    intro m k hd hm hk
    obtain ⟨k, rfl⟩ : ∃ q, k = q + 1 := ⟨k - 1, by omega⟩
    have hlt : m * s < t.size := (cnt_lt t s m hs).1 (by omega)
    have hcl : cntT t s ≤ 2000 := by unfold cntT; exact Nat.le_trans (Nat.div_le_self _ _) (by omega)
    obtain ⟨p, hp⟩ : ∃ p, p = m * s := ⟨_, rfl⟩
    rw [← hp] at hlt
    have hsz : (t.extract (min p t.size) t.size).size = t.size - p := by rw [ByteArray.size_extract]; omega
    obtain ⟨q, hq⟩ : ∃ q, q = min s (t.size - p) := ⟨_, rfl⟩
    have hmn : mn (s : Int) ((t.size - p : Nat) : Int) = (q : Int) := by unfold mn; split <;> omega
    have e1 : (t.extract (min p t.size) t.size).extract 0 q = blkT t s m := by
      unfold blkT
      rw [← hp, ByteArray.extract_extract]
      congr 1 <;> omega
    have e2 : (t.extract (min p t.size) t.size).extract q (t.size - p) = t.extract (min ((m + 1) * s) t.size) t.size := by
      rw [ByteArray.extract_extract, Nat.add_mul, ← hp]
      congr 1 <;> omega
    rw [← hp, sign_Blocks.l0, hsz, if_pos (by omega), hmn, if_pos (by omega), if_pos (by omega), if_pos (by rw [blksT_len]; omega), Int.toNat_natCast, e1, e2, ← blksT_succ]
    exact ih (m + 1) k (by omega) (by omega) (by omega)
theorem rb_step (k : Nat) (x0 : ByteArray) (x1 : Int) (x6 : List ByteArray) (x7 : Int) : strongroomref10_Blocks.l0 (k + 1) x0 x1 x6 x7 = if x7 < (x0.size : Int) then (if (wrap64 ((x0.size : Int) - x7)) < x1 then (if 0 ≤ x7 then (if x7 ≤ (x0.size : Int) then (if x6.length < 8796093022208 then (strongroomref10_Blocks.l0 k x0 x1 (x6 ++ [x0.extract (x7 : Int).toNat x0.size]) (wrap64 (x7 + x1))) else (none)) else (none)) else (none)) else (if 0 ≤ x7 then (if x7 ≤ (wrap64 (x7 + x1)) then (if (wrap64 (x7 + x1)) ≤ (x0.size : Int) then (if x6.length < 8796093022208 then (strongroomref10_Blocks.l0 k x0 x1 (x6 ++ [x0.extract (x7 : Int).toNat ((wrap64 (x7 + x1)) : Int).toNat]) (wrap64 (x7 + x1))) else (none)) else (none)) else (none)) else (none))) else (some (x6, 0)) := by
  simp only [strongroomref10_Blocks.l0]
set_option maxHeartbeats 4000000 in
theorem rsign_l0 (t : ByteArray) (s : Nat) (hs : 0 < s) (hs2 : s ≤ 128) (ht : t.size ≤ 1024) : ∀ (d m k : Nat), cntT t s - m = d → m ≤ cntT t s → d < k →
    strongroomref10_Blocks.l0 k t (s : Int) (blksT t s m) ((m * s : Nat) : Int) = some (blksT t s (cntT t s), 0) := by
  intro d
  induction d with
  | zero =>
    intro m k hd hm hk
    obtain ⟨k, rfl⟩ : ∃ q, k = q + 1 := ⟨k - 1, by omega⟩
    have hme : m = cntT t s := by omega
    have hge : ¬ m * s < t.size := fun h => by have := (cnt_lt t s m hs).2 h; omega
    rw [rb_step, if_neg (by omega), hme]
  | succ d ih =>
    intro m k hd hm hk
    obtain ⟨k, rfl⟩ : ∃ q, k = q + 1 := ⟨k - 1, by omega⟩
    have hlt : m * s < t.size := (cnt_lt t s m hs).1 (by omega)
    have hcl : cntT t s ≤ 2000 := by unfold cntT; exact Nat.le_trans (Nat.div_le_self _ _) (by omega)
    have ih := ih (m + 1) k (by omega) (by omega) (by omega)
    rw [Nat.add_mul, Nat.one_mul, blksT_succ] at ih
    have hbk : blkT t s m = t.extract (min (m * s) t.size) (min (m * s + s) t.size) := rfl
    obtain ⟨p, hp⟩ : ∃ p, p = m * s := ⟨_, rfl⟩
    rw [← hp] at hlt ih hbk ⊢
    have w1 : wrap64 ((t.size : Int) - (p : Int)) = ((t.size - p : Nat) : Int) := by unfold wrap64; omega
    have w2 : wrap64 ((p : Int) + (s : Int)) = ((p + s : Nat) : Int) := by unfold wrap64; omega
    rw [rb_step, w1, w2]
    clear w1 w2
    rw [if_pos (by omega)]
    by_cases hc : t.size - p < s
    · rw [if_pos (by omega), if_pos (by omega), if_pos (by omega), if_pos (by rw [blksT_len]; omega), Int.toNat_natCast]
      rw [show t.extract p t.size = blkT t s m from by rw [hbk]; congr 1 <;> omega]
      exact ih
    · rw [if_neg (by omega), if_pos (by omega), if_pos (by omega), if_pos (by omega), if_pos (by rw [blksT_len]; omega), Int.toNat_natCast, Int.toNat_natCast]
      rw [show t.extract p (p + s) = blkT t s m from by rw [hbk]; congr 1 <;> omega]
      exact ih
/-- what both give -/
theorem blocks_f (t : ByteArray) (size : Int) (ht : t.size ≤ 5000) : ∃ (k : Nat) (L : List ByteArray) (e : Int), sign_Blocks.f k t size = some (L, e) ∧ strongroomref10_Blocks.f k t size = some (L, e) ∧ ((e ≠ 0 ∧ L = []) ∨ ∃ s : Nat, size = (s : Int) ∧ 0 < s ∧ s ≤ 128 ∧ t.size ≤ 1024 ∧ e = 0 ∧ L = blksT t s (cntT t s)) := by
  unfold sign_Blocks.f strongroomref10_Blocks.f
  by_cases h1 : size < 1
  · refine ⟨1, [], 9, ?_, ?_, .inl ⟨by omega, rfl⟩⟩
    · rw [if_pos h1, sign_Blocks.j0, if_pos rfl]
    · rw [if_pos h1, strongroomref10_Blocks.j0, if_pos rfl]
  · by_cases h2 : 128 < size
    · refine ⟨1, [], 9, ?_, ?_, .inl ⟨by omega, rfl⟩⟩
      · rw [if_neg h1, sign_Blocks.j0, if_pos (decide_eq_true h2)]
      · rw [if_neg h1, strongroomref10_Blocks.j0, if_pos (decide_eq_true h2)]
    · have hd : ¬ (decide (size > 128) = true) := by simp; omega
      by_cases h3 : 1024 < t.size
      · refine ⟨1, [], 2, ?_, ?_, .inl ⟨by omega, rfl⟩⟩
        · rw [if_neg h1, sign_Blocks.j0, if_neg hd, if_pos (by omega)]
        · rw [if_neg h1, strongroomref10_Blocks.j0, if_neg hd, if_pos (by omega)]
      · obtain ⟨s, rfl⟩ := Int.eq_ofNat_of_zero_le (by omega : 0 ≤ size)
        refine ⟨cntT t s + 2, _, 0, ?_, ?_, .inr ⟨s, rfl, by omega, by omega, by omega, rfl, rfl⟩⟩
        · rw [if_neg h1, sign_Blocks.j0, if_neg hd, if_neg (by omega)]
          have h := sign_l0 t s (by omega) (by omega) (by omega) (cntT t s) 0 (cntT t s + 1) (by omega) (by omega) (by omega)
          rw [Nat.zero_mul, Nat.zero_min, ByteArray.extract_zero_size] at h
          exact h
        · rw [if_neg h1, strongroomref10_Blocks.j0, if_neg hd, if_neg (by omega)]
          have h := rsign_l0 t s (by omega) (by omega) (by omega) (cntT t s) 0 (cntT t s + 1) (by omega) (by omega) (by omega)
          rw [Nat.zero_mul] at h
          exact h
theorem same_l0 (ss : List ByteArray) (hn : ss.length ≤ 9223372036854775807) : ∀ (suf pre : List ByteArray) (k : Nat), ss = pre ++ suf → suf.length + 1 ≤ k → strongroomref10_Same.l0 k ss ss (pre.length : Int) = some true := by
  intro suf
  induction suf with
  | nil =>
    intro pre k hp hk
    obtain ⟨k, rfl⟩ : ∃ m, k = m + 1 := ⟨k - 1, by omega⟩
    have : ss.length = pre.length := by rw [hp]; simp
    simp only [strongroomref10_Same.l0]
    rw [if_neg (by omega)]
  | cons s suf ih =>
    intro pre k hp hk
    obtain ⟨k, rfl⟩ : ∃ m, k = m + 1 := ⟨k - 1, by omega⟩
    have hlen : ss.length = pre.length + suf.length + 1 := by rw [hp]; simp; omega
    rw [List.length_cons] at hk
    simp only [strongroomref10_Same.l0]
    rw [if_pos (show (pre.length : Int) < (ss.length : Int) from by omega), if_pos (show (0 : Int) ≤ (pre.length : Int) from by omega), if_pos (show (pre.length : Int) < (ss.length : Int) from by omega), if_pos trivial, show wrap64 ((pre.length : Int) + 1) = (pre.length : Int) + 1 from by unfold wrap64; omega]
    have := ih (pre ++ [s]) k (by rw [hp]; simp) (by omega)
    rwa [show ((pre ++ [s]).length : Int) = (pre.length : Int) + 1 from by simp] at this
theorem same_f (ss : List ByteArray) (hn : ss.length ≤ 9223372036854775807) : strongroomref10_Same.f (ss.length + 1) ss ss = some true := by
  unfold strongroomref10_Same.f
  rw [if_pos rfl]
  exact same_l0 ss hn ss [] _ rfl (by omega)
end Go.Proofs.Ytkapekndfnefeaa.F

-- SgnG
namespace Go.Proofs.Ytkapekndfnefeaa.F
open Go Go.RowKit Go.Proofs.YtkapekndfnefeaaW.PrintWords Go.Proofs.YtkapekndfnefeaaW.PrintLast Go.Proofs.YtkapekndfnefeaaW.PrintMore Go.Proofs.YtkapekndfnefeaaM Go.Proofs.YtkapekndfnefeaaR
attribute [local go_sem] max2_int min2_int max_two min_two
set_option linter.unusedSimpArgs false
set_option linter.unusedVariables false
set_option maxRecDepth 100000
/-- the cells of signatures -/
def sgs (l : List S25) : List Value := l.flatMap fun x => [.int .u32 x.f0, .string x.f1]
theorem sgs_snoc (l : List S25) (x : S25) : sgs (l ++ [x]) = sgs l ++ [.int .u32 x.f0, .string x.f1] := by simp [sgs]
theorem sgs_length (l : List S25) : (sgs l).length = l.length * 2 := by
  induction l with
  | nil => rfl
  | cons x l ih => simp [sgs] at *; omega
theorem sgs_get (l : List S25) (i : Nat) (h : i < l.length) : (sgs l)[i * 2]? = some (.int .u32 (l.getD i z25).f0) ∧ (sgs l)[i * 2 + 1]? = some (.string (l.getD i z25).f1) := by
  induction l generalizing i with
  | nil => simp at h
  | cons x l ih =>
    cases i with
    | zero => exact ⟨rfl, rfl⟩
    | succ i =>
      have := ih i (by simpa using h)
      have e : sgs (x :: l) = .int .u32 x.f0 :: .string x.f1 :: sgs l := rfl
      rw [e, Nat.add_mul]
      exact ⟨by simpa using this.1, by simpa using this.2⟩
/-- a block's signature -/
def oneS (key b : ByteArray) : S25 := ⟨weak (bytesOf b), strongS key b⟩
def SgR (base : Nat) (L : List S25) (e : Int) : World → Value → Prop := fun w v => ∃ v0, v = .tuple #[v0, .int .i64 e] ∧ w.ownsRow base 25 2 v0 L.length (sgs L)
theorem strs_cell {w : World} {A : Option Addr} {n : Nat} {ss : List ByteArray} (h : Kd.C Kd.string w A n ss) (i : Nat) (hi : i < n) : ∃ ad, A = some ad ∧ w.cell? (ad.add i) = some (.string (ss.getD i ByteArray.empty)) := by
  obtain ⟨ad, hA, hc⟩ := (Kd.reads_of_C (enc := Value.string) (d := ByteArray.empty) (h1 := fun _ => rfl) h).at_ (i : Int) (by omega) (by omega)
  exact ⟨ad, hA, by simpa [rdOf] using hc⟩
theorem infoSg : (Try.prog.info? 25).map (fun i => (i.zero, i.size, i.bytes)) = some (some (.agg #[.int .u32 0, .string ⟨#[]⟩]), 2, 24) := by kernel_rfl
set_option maxHeartbeats 2000000 in
theorem signs_c (w : World) (key t : ByteArray) (size : Int) (k : Nat) (L : List ByteArray) (e : Int) (hf : sign_Blocks.f k t size = some (L, e)) (he : e ≠ 0 → L = []) (hL : L.length ≤ 5000) (hb : ∀ b ∈ L, b.size ≤ 5000) (hk : key.size ≤ 10000000) :
    Calls Try.prog 15 #[.string key, .string t, .int .i64 size] w (Tells w (SgR w.heap.size (L.map (oneS key)) e)) := by
  have H1 := Lib.hid (fun w => sign_Blocks.calls k t size _ _ w hf)
  have HONE := Lib.hid (fun w b (h : b ∈ L) => one_c w key b hk (by have := hb b h; omega))
  obtain ⟨n, hn⟩ : ∃ n, n = L.length := ⟨_, rfl⟩
  have HN := Lib.hid hn.symm
  rw [← hn] at hL
  have HE := Lib.hid he
  have HLn := Lib.hid hL
  clear hf he hb hk hn hL
  go_enter Try.func15, Try.ntmps15
  go_wp2_with fail
  refine (H1.out _).mono ?_
  rintro e1 w1 ⟨v1, rfl, hR1, hg1⟩
  obtain ⟨A1, c1, hv1, hc1, hC1⟩ := Kd.R_reads hR1
  rw [HN.out] at hC1 hc1 hv1
  subst hv1
  have HC1 := Lib.hid hC1
  have Hc1 := Lib.hid hc1
  clear hR1 hC1 hc1
  by_cases h0 : e = 0
  · subst h0
    go_wp2_with fail
    go_loopw [10, 24] (fun ov iv wr => ∃ (pre suf : List ByteArray), iv = .int .i64 (pre.length : Int) ∧ L = pre ++ suf ∧ wr.ownsRow w1.heap.size 25 2 ov (pre.map (oneS key)).length (sgs (pre.map (oneS key))) ∧ Grew w1 wr) (fun _ iv _ => n - (intOf iv).toNat)
    case atStart => exact ⟨[], L, rfl, rfl, World.ownsRow_nil _ _ _ _, Grew.refl _⟩
    case round =>
      obtain ⟨pre, suf, rfl, hp, hown, hgr⟩ := hrel
      have hnn := HN.out
      rw [hp, List.length_append] at hnn
      rcases suf with _ | ⟨b, suf⟩
      · have d1 : decide ((pre.length : Int) < (n : Int)) = false := decide_eq_false (by simp at hnn; omega)
        have d2 : decide (pre.length < n) = false := decide_eq_false (by simp at hnn; omega)
        rw [List.append_nil] at hp
        have HP := Lib.hid hp
        have HO := Lib.hid hown
        clear hp hnn hown
        go_wp2_with fail
        go_ret2
        exact ⟨_, rfl, ⟨_, rfl, by rw [HP.out]; exact own_weaken HO.out hg1.size⟩, Grew.trans hg1 hgr⟩
      · have hlt : pre.length < n := by simp at hnn; omega
        have d1 : decide ((pre.length : Int) < (n : Int)) = true := decide_eq_true (by omega)
        have d2 : decide (pre.length < n) = true := decide_eq_true hlt
        have i1 : (pre.length : Int) < (n : Int) := by omega
        obtain ⟨ad, rfl, hcell⟩ := strs_cell HC1.out pre.length hlt
        have hpi : L.getD pre.length ByteArray.empty = b := by rw [hp]; simp [List.getD]
        rw [hpi] at hcell
        have k1 := pw_cell_below hgr hcell
        have HSE := Lib.hid (fun w => HONE.out w b (by rw [hp]; simp))
        have HP := Lib.hid (show L = (pre ++ [b]) ++ suf from by rw [hp]; simp)
        obtain ⟨x, hx⟩ : ∃ x, x = oneS key b := ⟨_, rfl⟩
        have HX := Lib.hid hx
        have HM := Lib.hid (show sgs (pre.map (oneS key)) ++ [.int .u32 x.f0, .string x.f1] = sgs ((pre ++ [b]).map (oneS key)) from by rw [List.map_append, hx]; exact (sgs_snoc _ _).symm)
        have HL2 := Lib.hid (show (pre.map (oneS key)).length + 1 = ((pre ++ [b]).map (oneS key)).length from by simp)
        have HL3 := Lib.hid (show (pre.map (oneS key)).length ≤ 5000 from by rw [List.length_map]; have := HLn.out; omega)
        have hse : ∀ w, Calls Try.prog 10 #[.string key, .string b] w (Tells w (Is (.agg #[.int .u32 x.f0, .string x.f1]))) := by rw [hx]; exact HSE.out
        have HSE2 := Lib.hid hse
        have hw : IntKind.i64.wrap ((pre.length : Int) + 1) = (pre.length : Int) + 1 := by
          have := HLn.out
          rw [IntWalk.i64_in _ (by omega)]
        have HO := Lib.hid hown
        have HG := Lib.hid hgr
        clear hp hnn hcell hpi hx hse hown hgr
        go_wp2_with fail
        refine (HSE2.out _).mono ?_
        rintro e2 w2 ⟨_, rfl, rfl, hg2⟩
        have hown2 := pw_own_below HO.out hg2
        have hgw2 := Grew.trans HG.out hg2
        clear k1
        go_wp2_with (at_builtin; refine print_append_cells (w0 := w1) w1.heap.size rfl (.tmp 28) (.tmp 32) 34 25 (.agg #[.int .u32 0, .string ⟨#[]⟩]) 2 24 rfl Try.underlying34 infoSg rfl (by decide) (by decide) _ _ _ [.int .u32 x.f0, .string x.f1] rfl rfl rfl (by intro v hv; simp at hv; rcases hv with rfl | rfl <;> rfl) hown2 hgw2 hgw2.size (by have := HL3.out; omega) ?_; intro v1 w4 hown4 hgr4 hgb hat)
        go_roundw
        case rel => exact ⟨pre ++ [b], suf, by simp, HP.out, by rw [← HL2.out, ← HM.out]; exact hown4, hgr4⟩
        case measure => simp [intOf]; omega
  · have d1 : decide (e = 0) = false := decide_eq_false h0
    have e1 : (e != 0) = true := by simpa using h0
    have hnil := HE.out h0
    subst hnil
    go_wp2_with fail
    go_ret2
    exact ⟨_, rfl, ⟨_, rfl, World.ownsRow_nil _ _ _ _⟩, hg1⟩
end Go.Proofs.Ytkapekndfnefeaa.F

-- RegB
namespace Go.Proofs.YtkapekndfnefeaaR
open Go Go.RowKit
section
variable (P : Program) (Q : Exit → Act → World → Prop) (R Rp : World → World → Prop) (V : Nat → World → Value → Prop) (a0 : Act) (w0 : World) (E : Act → World → Prop)
def PhGoalF (o : Oper) (g : GuardT) (i : Nat) (r : Reads) : Phase → Prop
  | .plain => ∀ a w, R w0 w → Deps V a0 a w r → OpGoal P Q R V o g i a w
  | .float => ∀ a w, (R w0 w ∨ ∃ w1, R w0 w1 ∧ Rp w1 w) → Deps V a0 a w r → OpGoal P Q (fun w w' => w' = w) V o g i a w
  | .big => o.guard = none ∧ ∀ a w, R w0 w → Deps V a0 a w r → ∀ K : Act → World → Prop, (∀ v w', Rp w w' → V i w' v → K (a.put o.dst v) w') → o.wp P a w K Q
def PhHoldF : Nat → List Oper → List (Reads × GuardT) → List Phase → Prop
  | i, o :: os, (r, g) :: rs, k :: ks => PhGoalF P Q R Rp V a0 w0 o g i r k ∧ PhHoldF (i + 1) os rs ks
  | _, _, _, _ => True
end

section
variable {P : Program} {ops : Array Oper} {Q : Exit → Act → World → Prop} {R Rp : World → World → Prop} {V : Nat → World → Value → Prop} {a0 : Act} {w0 : World} {E : Act → World → Prop}
theorem phHold_atF : ∀ (os : List Oper) (rs : List (Reads × GuardT)) (ks : List Phase) (k i : Nat) (o : Oper) (r : Reads) (g : GuardT) (p : Phase), PhHoldF P Q R Rp V a0 w0 k os rs ks → os[i]? = some o → rs[i]? = some (r, g) → ks[i]? = some p →
    PhGoalF P Q R Rp V a0 w0 o g (k + i) r p
  | [], _, _, _, i, o, r, g, p, _, ho, _, _ => by simp at ho
  | o' :: os, [], _, _, i, o, r, g, p, _, _, hr, _ => by simp at hr
  | o' :: os, (r', g') :: rs, [], _, i, o, r, g, p, _, _, _, hk => by simp at hk
  | o' :: os, (r', g') :: rs, p' :: ks, k, 0, o, r, g, p, h, ho, hr, hk => by
    simp at ho hr hk
    obtain ⟨rfl, rfl⟩ := hr
    subst ho
    subst hk
    exact h.1
  | o' :: os, (r', g') :: rs, p' :: ks, k, i + 1, o, r, g, p, h, ho, hr, hk => by
    have := phHold_atF os rs ks (k + 1) i o r g p h.2 (by simpa using ho) (by simpa using hr) (by simpa using hk)
    rw [show k + 1 + i = k + (i + 1) from by omega] at this
    exact this
theorem wpAny_invF {A : List Nat} {reads : List (Reads × GuardT)} {ks : List Phase} (hA : edgesOk ops A = true) (hP : pairsOk ops A = true) (hR : readsOk ops reads a0.tmps.size = true) (hT : tailOk ops A reads.length = true)
    (hrf : ∀ w, R w w) (htr : ∀ a b c, R a b → R b c → R a c) (hK : phaseOk A ks reads.length = true)
    (hst : ∀ i, ks[i]? ≠ some .big → ∀ w w' v, R w w' ∨ Rp w w' → V i w v → V i w' v)
    (hops : PhHoldF P Q R Rp V a0 w0 0 ops.toList reads ks)
    (hend : ∀ listed a w, (∀ j, listed.getD j false = decide (j < reads.length)) → InvB ops reads.length R Rp V ks a0 w0 listed a w → wpList P ops Q (ops.toList.drop reads.length) a w) :
    ∀ (fuel : Nat) (listed : Array Bool) (a : Act) (w : World), listed.toList.count false ≤ fuel → InvB ops reads.length R Rp V ks a0 w0 listed a w → wpAny P .any ops Q fuel listed a w := by
  have hT0 := hT
  simp only [tailOk, Bool.and_eq_true, decide_eq_true_eq, List.all_eq_true, Bool.or_eq_true, List.mem_range] at hT0
  -- when all of the head has come up
  have fin : ∀ (fuel : Nat) (listed : Array Bool) (a : Act) (w : World), listed.toList.count false ≤ fuel → InvB ops reads.length R Rp V ks a0 w0 listed a w → (∀ j, j < reads.length → listed.getD j false = true) → wpAny P .any ops Q fuel listed a w := by
    intro fuel listed a w hf hi hall
    have hl : ∀ j, listed.getD j false = decide (j < reads.length) := by
      intro j
      rcases Nat.lt_or_ge j reads.length with h | h
      · rw [hall j h]; simp [h]
      · rw [hi.tail j h]; simp; omega
    refine wpAny_tail hA hT fuel reads.length listed a w (Nat.le_refl _) ?_ hT0.1 hi.lsize hl (hend listed a w hl hi)
    -- those that are not listed are as many as the tail is long
    have : (listed.toList.drop reads.length).count false = listed.size - reads.length := by
      have h1 : listed.toList.drop reads.length = List.replicate (listed.size - reads.length) false := by
        refine List.ext_getElem (by simp) fun j h1 h2 => ?_
        simp only [List.getElem_drop, List.getElem_replicate]
        have h3 : reads.length + j < listed.size := by simp at h1; omega
        have h4 := hi.tail (reads.length + j) (by omega)
        simpa [h3] using h4
      rw [h1, List.count_replicate_self]
    have h2 : (listed.toList.drop reads.length).count false ≤ listed.toList.count false := List.Sublist.count_le _ (List.drop_sublist _ _)
    have := hi.lsize
    omega
  -- before that, nothing of the tail may come up
  have low : ∀ (listed : Array Bool), listed.size = ops.size → Closed ops listed → ∀ i, i ∈ Region.ready .any ops listed → reads.length ≤ i → ∀ j, j < reads.length → listed.getD j false = true := by
    intro listed hs hc i hi hm j hj
    obtain ⟨hun, o, ho, hd⟩ := mem_ready.1 hi
    have hisz := (Array.getElem?_eq_some_iff.1 ho).1
    exact closed_anc hA hc i o ho hd j ((hT0.2 i hisz).resolve_left (by omega) j (by omega))
  intro fuel
  induction fuel with
  | zero =>
    intro listed a w hf hi
    refine fin 0 listed a w hf hi fun j hj => ?_
    have hjs : j < listed.size := by have := hi.lsize; omega
    cases hl : listed.getD j false with
    | true => rfl
    | false =>
      exfalso
      have hv : listed[j] = false := by simpa [hjs] using hl
      have : 0 < listed.toList.count false := List.count_pos_iff.2 (by rw [← hv]; simp)
      omega
  | succ fuel ih =>
    intro listed a w hf hi
    by_cases hall : ∀ j, j < reads.length → listed.getD j false = true
    · exact fin (fuel + 1) listed a w hf hi hall
    refine ⟨fun h => absurd (fun j hj => all_of_ready rfl hA hi.lsize h j (by omega)) hall, fun i hir => ?_⟩
    have him : i < reads.length := by
      rcases Nat.lt_or_ge i reads.length with h | h
      · exact h
      · exact absurd (low listed hi.lsize hi.closed i hir h) hall
    obtain ⟨hun, o, ho, hdeps⟩ := mem_ready.1 hir
    have hisz : i < ops.size := (Array.getElem?_eq_some_iff.1 ho).1
    have hun' : listed.getD i false = false := by rw [getD_irrel (by rw [hi.lsize]; exact hisz) false true]; exact hun
    simp only [readsOk, List.all_eq_true] at hR
    have hRi := hR i (List.mem_range.2 him)
    have hri : reads[i]? = some (reads[i]'(by omega)) := List.getElem?_eq_getElem (by omega)
    generalize hrg : reads[i]'(by omega) = rg at hri
    obtain ⟨r, g⟩ := rg
    rw [ho, hri] at hRi
    simp only [Bool.and_eq_true, List.all_eq_true] at hRi
    obtain ⟨⟨hr, hdst⟩, hg⟩ := hRi
    -- ancestors of i are listed; descendants are not
    have hanc : ∀ k, (A.getD i 0).testBit k = true → listed.getD k false = true := closed_anc hA hi.closed i o ho hdeps
    have hdesc : ∀ j oj, ops[j]? = some oj → (A.getD j 0).testBit i = true → listed.getD j false = false := by
      intro j oj hoj hb
      cases hl : listed.getD j false with
      | false => rfl
      | true =>
        have := closed_anc hA hi.closed j oj hoj (hi.closed j oj hoj hl) i hb
        rw [this] at hun'; cases hun'
    have pair : ∀ i' j' oi' oj', i' < j' → ops[i']? = some oi' → ops[j']? = some oj' → (A.getD j' 0).testBit i' = true ∨ ((∀ t, oi'.dst = some t → t ∉ names ops oj') ∧ ∀ t, oj'.dst = some t → t ∉ oi'.looksAt ops) := by
      intro i' j' oi' oj' hlt hoi hoj
      have h1 := List.all_eq_true.1 hP j' (List.mem_range.2 (Array.getElem?_eq_some_iff.1 hoj).1)
      simp only [hoj, List.all_eq_true, List.mem_range] at h1
      have h2 := h1 i' hlt
      simp only [hoi, Bool.or_eq_true, Bool.and_eq_true] at h2
      rcases h2 with h2 | ⟨h2, h3⟩
      · exact .inl h2
      · refine .inr ⟨fun t ht => ?_, fun t ht => ?_⟩
        · simp [ht] at h2; exact h2
        · simp [ht] at h3; exact h3
    -- the writers that are listed of what i looks at are those ahead of it
    have hlook : ∀ t ∈ o.looksAt ops, lastW ops (fun j => listed.getD j false) t = lastW ops (fun j => decide (j < i)) t := by
      intro t ht
      refine lastW_congr fun j oj hoj hd => ?_
      rcases Nat.lt_trichotomy j i with hlt | rfl | hgt
      · have := (pair j i oj o hlt hoj ho).resolve_right (fun h => h.1 t hd (List.mem_append_right _ ht))
        simp [hlt, hanc j this]
      · simp [hun']
      · have := (pair i j o oj hgt ho hoj).resolve_right (fun h => h.2 t hd ht)
        rw [hdesc j oj hoj this]
        symm; simp; omega
    have hD : Deps V a0 a w r := by
      refine deps_of a w r fun ⟨t, j⟩ hx => ?_
      have h1 := hr (t, j) hx
      simp only [beq_iff_eq, List.contains_iff_mem] at h1
      have h2 := hi.tmps t
      rw [hlook t h1.1, h1.2] at h2
      cases j <;> exact h2
    simp only [phaseOk, Bool.and_eq_true, beq_iff_eq, List.all_eq_true, List.mem_range] at hK
    have hki : ks[i]? = some (ks[i]'(by omega)) := List.getElem?_eq_getElem (by omega)
    generalize hkk : ks[i]'(by omega) = kd at hki
    have hgoal := phHold_atF ops.toList reads ks 0 i o r g kd hops (by simpa using ho) hri hki
    rw [Nat.zero_add] at hgoal
    have big_all : ∀ p, ks[p]? = some .big → ∀ j, j < reads.length → j ≠ p → ks[j]? = some .float ∨ (A.getD p 0).testBit j = true := by
      intro p hp j hj hne
      have hpl : p < reads.length := by
        have := (List.getElem?_eq_some_iff.1 hp).1
        omega
      have := hK.2 p hpl
      rw [hp] at this
      simp only [List.all_eq_true, List.mem_range, Bool.or_eq_true, beq_iff_eq] at this
      rcases this j hj with (h | h) | h
      · exact absurd h hne
      · exact .inl h
      · exact .inr h
    have noBig : kd ≠ .float → ¬ BigIn ks listed := by
      rintro hne ⟨p, hp, hl⟩
      by_cases hip : i = p
      · subst hip; rw [hun'] at hl; cases hl
      · rcases big_all p hp i him hip with h | h
        · rw [hki] at h; exact hne (Option.some.inj h)
        · have hpo : p < ops.size := by
            rcases Nat.lt_or_ge p ops.size with h' | h'
            · exact h'
            · rw [show listed.getD p false = false from by simp [Array.getElem?_eq_none (show listed.size ≤ p by rw [hi.lsize]; exact h')]] at hl; cases hl
          have := closed_anc hA hi.closed p _ (Array.getElem?_eq_getElem hpo) (hi.closed p _ (Array.getElem?_eq_getElem hpo) hl) i h
          rw [this] at hun'; cases hun'
    have bigSet : ∀ {k : Phase}, kd = k → k ≠ .big → (BigIn ks (listed.setIfInBounds i true) ↔ BigIn ks listed) := by
      intro k hk hne
      constructor
      · rintro ⟨p, hp, hl⟩
        by_cases hip : i = p
        · subst hip; rw [hki] at hp; exact absurd (hk.symm.trans (Option.some.inj hp)) hne
        · rw [getD_set_other _ hip] at hl; exact ⟨p, hp, hl⟩
      · rintro ⟨p, hp, hl⟩
        by_cases hip : i = p
        · subst hip; rw [hun'] at hl; cases hl
        · exact ⟨p, hp, by rw [getD_set_other _ hip]; exact hl⟩
    have notBig : ∀ j, listed.getD j false = true → ¬ BigIn ks listed → ks[j]? ≠ some .big := fun j hl hb h => hb ⟨j, h, hl⟩
    -- behind operation i
    have next : ∀ v w', (∀ j, j ≠ i → listed.getD j false = true → ∀ u, V j w u → V j w' u) → (¬ BigIn ks (listed.setIfInBounds i true) → R w0 w') → (BigIn ks (listed.setIfInBounds i true) → ∃ w1, R w0 w1 ∧ Rp w1 w') → V i w' v → wpAny P .any ops Q fuel (listed.setIfInBounds i true) (a.put o.dst v) w' := by
      intro v w' hww he hl hv
      refine ih _ _ _ (unlisted_set hun fuel hf) ⟨he, hl, ?_, ?_, by simp [hi.lsize], ?_, fun j hj => ?_, ?_⟩
      · cases hd : o.dst <;> simp [Act.put, hi.size]
      · cases hd : o.dst <;> simp [Act.put, hi.defers]
      · intro j oj hoj hl e he hb
        by_cases hji : i = j
        · subst hji
          rw [ho] at hoj
          obtain rfl := Option.some.inj hoj
          by_cases hei : i = e.on
          · rw [← hei]; exact getD_set_self (by rw [hi.lsize]; exact hisz) _
          · rw [getD_set_other _ hei]; exact hdeps e he hb
        · rw [getD_set_other _ hji] at hl
          by_cases hei : i = e.on
          · rw [← hei]; exact getD_set_self (by rw [hi.lsize]; exact hisz) _
          · rw [getD_set_other _ hei]; exact hi.closed j oj hoj hl e he hb
      · rw [getD_set_other _ (by omega)]; exact hi.tail j hj
      · intro t
        by_cases hd : o.dst = some t
        · rw [lastW_set ho hd (p := fun j => (listed.setIfInBounds i true).getD j false) (getD_set_self (by rw [hi.lsize]; exact hisz) _) (fun j oj hoj hdj hlt => by
            have := (pair i j o oj hlt ho hoj).resolve_right (fun h => h.1 t hd (by simp [names, hdj]))
            rw [getD_set_other _ (by omega)]
            exact hdesc j oj hoj this)]
          have htn : t < a.tmps.size := by rw [hi.size]; simpa [hd] using hdst
          simp only [hd, Act.put]
          simpa [htn] using hv
        · rw [lastW_congr (q := fun j => listed.getD j false) (fun j oj hoj hdj => by
            by_cases hji : i = j
            · subst hji; rw [ho] at hoj; obtain rfl := Option.some.inj hoj; exact absurd hdj hd
            · exact getD_set_other _ hji)]
          have h2 := hi.tmps t
          have same : (a.put o.dst v).tmps[t]?.getD undef = a.tmps[t]?.getD undef := by
            cases hdd : o.dst with
            | none => rfl
            | some d =>
              have hne : d ≠ t := fun e => hd (by rw [hdd, e])
              simp [Act.put, Array.getElem?_setIfInBounds_ne hne]
          rw [same]
          revert h2
          cases hlw : lastW ops (fun j => listed.getD j false) t with
          | none => exact id
          | some j =>
            have hlj := lastW_listed hlw
            refine hww j ?_ hlj _
            intro e
            subst e
            rw [hun'] at hlj
            cases hlj
    unfold wpOp
    simp only [ho]
    cases kd with
    | big =>
      obtain ⟨hgn, hgoal⟩ := hgoal
      have hnb := noBig (by simp)
      rw [if_pos (by simp [Region.wanted, hgn])]
      refine .inl (hgoal a w (hi.early hnb) hD _ fun v w' hrp hv => ?_)
      have hbig : BigIn ks (listed.setIfInBounds i true) := ⟨i, hki, getD_set_self (by rw [hi.lsize]; exact hisz) _⟩
      exact next v w' (fun j _ hl u hu => hst j (notBig j hl hnb) w w' u (.inr hrp) hu) (fun h => absurd hbig h) (fun _ => ⟨w, hi.early hnb, hrp⟩) hv
    | plain =>
      have hnb := noBig (by simp)
      have hgoal := hgoal a w (hi.early hnb) hD
      have hs := bigSet rfl (by simp)
      have nx : ∀ v w', R w w' → V i w' v → wpAny P .any ops Q fuel (listed.setIfInBounds i true) (a.put o.dst v) w' := fun v w' hr hv =>
        next v w' (fun j _ hl u hu => hst j (notBig j hl hnb) w w' u (.inl hr) hu) (fun _ => htr _ _ _ (hi.early hnb) hr) (fun h => absurd (hs.1 h) hnb) hv
      cases hgg : o.guard with
      | none =>
        rw [hgg] at hg
        cases g with
        | some _ => simp at hg
        | none =>
          rw [if_pos (by simp [Region.wanted, hgg])]
          exact .inl (hgoal _ nx)
      | some kw =>
        obtain ⟨k, want⟩ := kw
        rw [hgg] at hg
        cases g with
        | none => simp at hg
        | some tw =>
          obtain ⟨t, want'⟩ := tw
          simp only [Bool.and_eq_true, beq_iff_eq] at hg
          obtain ⟨rfl, hk⟩ := hg
          have hw := wanted_iff (a := a) hgg hk
          by_cases hv : a.tmps[t]?.getD undef = .bool want
          · rw [if_pos (hw.2 hv)]
            exact .inl (hgoal.1 hv _ nx)
          · rw [if_neg (fun h => hv (hw.1 h))]
            exact nx undef w (hrf w) (hgoal.2 hv)
    | float =>
      have hgoal := hgoal a w (by
        by_cases hbi : BigIn ks listed
        · exact .inr (hi.late hbi)
        · exact .inl (hi.early hbi)) hD
      have hs := bigSet rfl (by simp)
      have nx : ∀ v w', w' = w → V i w' v → wpAny P .any ops Q fuel (listed.setIfInBounds i true) (a.put o.dst v) w' := fun v w' hr hv => by
        subst hr
        exact next v w' (fun j _ _ u hu => hu) (fun h => hi.early (fun hb => h (hs.2 hb))) (fun h => hi.late (hs.1 h)) hv
      cases hgg : o.guard with
      | none =>
        rw [hgg] at hg
        cases g with
        | some _ => simp at hg
        | none =>
          rw [if_pos (by simp [Region.wanted, hgg])]
          exact .inl (hgoal _ nx)
      | some kw =>
        obtain ⟨k, want⟩ := kw
        rw [hgg] at hg
        cases g with
        | none => simp at hg
        | some tw =>
          obtain ⟨t, want'⟩ := tw
          simp only [Bool.and_eq_true, beq_iff_eq] at hg
          obtain ⟨rfl, hk⟩ := hg
          have hw := wanted_iff (a := a) hgg hk
          by_cases hv : a.tmps[t]?.getD undef = .bool want
          · rw [if_pos (hw.2 hv)]
            exact .inl (hgoal.1 hv _ nx)
          · rw [if_neg (fun h => hv (hw.1 h))]
            exact nx undef w rfl (hgoal.2 hv)
end

section
variable {P : Program} {Q : Exit → Act → World → Prop} {V : Nat → World → Value → Prop} {a0 : Act} {w0 : World} {E : Act → World → Prop}
theorem wp_region_bigF {id : Nat} {n : Nat} (ks : List Phase) (V : Nat → World → Value → Prop) (R Rp : World → World → Prop) (reads : List (Reads × GuardT)) (fin : List (Tmp × Nat)) {l : List Oper} (tail : List Oper) (hn : a0.tmps.size = n) (hk : regionOk l.toArray reads fin n = true) (hd : l.drop reads.length = tail) (hm : P.follows .mixedOrders = true)
    (hrf : ∀ w, R w w) (htr : ∀ a b c, R a b → R b c → R a c) (hK : phaseOk (mkAnc l) ks reads.length = true) (hb : ks.contains .big = true)
    (hst : ∀ i, ks[i]? ≠ some .big → ∀ w w' v, R w w' ∨ Rp w w' → V i w v → V i w' v)
    (hops : PhHoldF P Q R Rp V a0 w0.drew 0 l reads ks)
    (hend : EndHold (fun w w' => ∃ w1, R w w1 ∧ Rp w1 w') V w0.drew (wpList P l.toArray Q tail) (fun _ => True) fin a0) :
    (Code.region id l.toArray true).wp P Q a0 w0 := by
  subst hn
  subst hd
  simp only [regionOk, Bool.and_eq_true] at hk
  obtain ⟨⟨⟨⟨hA, hP⟩, hR⟩, hF⟩, hT⟩ := hk
  refine wp_region_any hm ?_
  refine wpAny_invF (Rp := Rp) (ks := ks) (w0 := w0.drew) hA hP hR hT hrf htr hK hst hops ?_ _ _ _ _ (Nat.le_trans List.count_le_length (by simp)) ⟨fun _ => hrf _, ?_, rfl, rfl, by simp, ?_, ?_, ?_⟩
  · intro listed a w hl hi
    simp only [finalOk, Bool.and_eq_true, List.all_eq_true, beq_iff_eq] at hF
    have hF2 : ∀ (j : Nat) (o : Oper) (t : Tmp), l.toArray[j]? = some o → j < reads.length → o.dst = some t → t ∈ fin.map (·.1) := by
      intro j o t ho hj hd
      have := hF.2 o (by
        have h1 : (l.take reads.length)[j]? = some o := by rw [List.getElem?_take_of_lt hj]; simpa using ho
        exact List.mem_of_getElem? h1)
      rw [hd] at this
      simpa using this
    have hlast : ∀ t, lastW l.toArray (fun j => listed.getD j false) t = lastW l.toArray (fun j => decide (j < reads.length)) t := fun t =>
      lastW_congr fun j o ho _ => hl j
    have e : fin.foldl (fun a' x => a'.put (some x.1) ((fun t => a.tmps[t]?.getD undef) x.1)) a0 = a := by
      have h := foldl_put (fun t => a.tmps[t]?.getD undef) fin a0
      have hd : (fin.foldl (fun a' x => a'.put (some x.1) ((fun t => a.tmps[t]?.getD undef) x.1)) a0).defers = a.defers := h.2.1.trans hi.defers.symm
      have ht : (fin.foldl (fun a' x => a'.put (some x.1) ((fun t => a.tmps[t]?.getD undef) x.1)) a0).tmps = a.tmps := by
        refine Array.ext_getElem? fun t => ?_
        rcases Nat.lt_or_ge t a0.tmps.size with hlt | hge
        · rw [h.2.2 t hlt]
          have hat : a.tmps[t]? = some (a.tmps[t]?.getD undef) := by
            have : t < a.tmps.size := by rw [hi.size]; exact hlt
            simp [this]
          by_cases hm : t ∈ fin.map (·.1)
          · rw [if_pos hm]; exact hat.symm
          · rw [if_neg hm]
            have h2 := hi.tmps t
            have hnone : lastW l.toArray (fun j => listed.getD j false) t = none := by
              unfold lastW
              rw [List.find?_eq_none]
              intro j _
              cases ho : l.toArray[j]? with
              | none => simp
              | some o =>
                by_cases hdo : o.dst = some t
                · rcases Nat.lt_or_ge j reads.length with hj | hj
                  · exact absurd (hF2 j o t ho hj hdo) hm
                  · simp only [hi.tail j hj]; simp
                · simp [hdo]
            rw [hnone] at h2
            rw [hat, h2]
            simp [hlt]
        · rw [Array.getElem?_eq_none (by rw [h.1]; exact hge), Array.getElem?_eq_none (by rw [hi.size]; exact hge)]
      generalize fin.foldl (fun a' x => a'.put (some x.1) ((fun t => a.tmps[t]?.getD undef) x.1)) a0 = z at hd ht
      cases z; cases a; simp_all
    have hbin : BigIn ks listed := by
      have hmem := List.contains_iff_mem.1 hb
      obtain ⟨p, hp⟩ := List.mem_iff_getElem?.1 hmem
      refine ⟨p, hp, ?_⟩
      rw [hl p]
      have h1 := (List.getElem?_eq_some_iff.1 hp).1
      have h2 := hK
      simp only [phaseOk, Bool.and_eq_true, beq_iff_eq] at h2
      simp; omega
    have := endHold_at (fun t => a.tmps[t]?.getD undef) w (hi.late hbin) fin _ a0 hend trivial (fun x hx => by
      have h1 := hF.1 x hx
      have h2 := hi.tmps x.1
      rw [hlast, h1] at h2
      exact h2)
    rw [e] at this
    exact this
  · rintro ⟨p, _, hp⟩
    exfalso
    rcases Nat.lt_or_ge p l.length with h | h
    · simp [h] at hp
    · simp [h] at hp
  · intro j o ho hl
    exfalso
    have hj : j < l.length := by simpa using (Array.getElem?_eq_some_iff.1 ho).1
    simp [hj] at hl
  · intro j _
    rcases Nat.lt_or_ge j l.length with h | h
    · simp [h]
    · simp [h]
  · intro t
    have : lastW l.toArray (fun j => (Array.replicate l.toArray.size false).getD j false) t = none := by
      unfold lastW
      rw [List.find?_eq_none]
      intro j hj
      have hj : j < l.length := by simpa using hj
      simp [hj]
    rw [this]


end

theorem region_bigF {P : Program} {Q : Exit → Act → World → Prop} {a0 : Act} {w0 : World} {id : Nat} {n : Nat} {l : List Oper} (Rp : World → World → Prop) (ks : List Phase) (Vs : List (World → Value → Prop)) (reads : List (Reads × GuardT)) (fin : List (Tmp × Nat))
    (hn : a0.tmps.size = n) (hk : regionOk l.toArray reads fin n = true) (hK : phaseOk (mkAnc l) ks reads.length = true) (hb : ks.contains .big = true) (hm : P.follows .mixedOrders = true) (hv : ks.length = Vs.length)
    (hst : StableB Grew Rp ks Vs)
    (hops : PhHoldF P Q Grew Rp (at_ Vs) a0 w0.drew 0 l reads ks)
    (hend : EndHold (fun w w' => ∃ w1, Grew w w1 ∧ Rp w1 w') (at_ Vs) w0.drew (Later (wpList P l.toArray Q (dropN reads l))) (fun _ => True) fin a0) :
    (Code.region id l.toArray true).wp P Q a0 w0 :=
  wp_region_bigF ks (at_ Vs) Grew Rp reads fin _ hn hk (dropN_eq reads l) hm Grew.refl (fun _ _ _ => Grew.trans) hK hb (stableB_at ks Vs hv hst) hops (endHold_later _ _ _ hend)
end Go.Proofs.YtkapekndfnefeaaR

-- Grp
namespace Go.Proofs.Ytkapekndfnefeaa.F
open Go Go.RowKit Go.Proofs.YtkapekndfnefeaaW.PrintWords Go.Proofs.YtkapekndfnefeaaW.PrintLast Go.Proofs.YtkapekndfnefeaaW.PrintMore Go.Proofs.YtkapekndfnefeaaR
open Go.ChangeMaps Go.MapKept Go.ChangeShapes
open Go.WideElems (Fit rd rg pl rd_val elemAt)
open Go.Maps (Keyed)
set_option linter.unusedSimpArgs false
set_option linter.unusedVariables false
section
variable {H : Type} {P : Program} {k : TypeId} {w w' : World} {base : Nat} {e : TypeId} {q : IntKind} {b n : Nat} {D : DataW H}
theorem ints_move {v : Value} {zs : List Int} (h : w.ownsInts base e q v zs) (hm : ∀ g, v.ownBlock = some g → w'.heap[g]? = w.heap[g]?) : w'.ownsInts base e q v zs := ⟨own_move h.1 hm, h.2⟩
theorem own_cells {size n : Nat} {v : Value} {xs : List Value} (h : w.ownsRow base e size v n xs) {g : Nat} (hg : v.ownBlock = some g) : ∃ cur, w.heap[g]? = some (.cells cur e (0, 0)) := by
  rcases h.2 with ⟨rfl, _⟩ | ⟨g', cap, cur, rfl, _, hh, _⟩
  · simp [Value.ownBlock] at hg
  · have : g' = g := by simpa [Value.ownBlock] using hg
    subst this
    exact ⟨cur, hh⟩
theorem groups_move (h : w.ownsGroups P k base e q b n D) (hb' : w'.heap[b]? = w.heap[b]?)
    (hrow : ∀ g, base ≤ g → g < w.heap.size → (∃ cur, w.heap[g]? = some (.cells cur e (0, 0))) → (∀ es clock, w.heap[b]? = some (.map es clock) → ∃ x ∈ es.toList, x.val.ownBlock = some g) → w'.heap[g]? = w.heap[g]?) : w'.ownsGroups P k base e q b n D := by
  obtain ⟨es, clock, hb, F, hs, rfl, hbb, hlen, hap⟩ := h
  have hmv : ∀ x ∈ es.toList, ∀ zs, w.ownsInts base e q x.val zs → w'.ownsInts base e q x.val zs := fun x hx zs ho => ints_move ho fun g hg => hrow g (ho.1.lt g hg).1 (ho.1.lt g hg).2 (own_cells ho.1 hg) fun es' clock' hb2 => by
    obtain ⟨rfl, rfl⟩ : es = es' ∧ clock = clock' := by rw [hb] at hb2; simpa using hb2
    exact ⟨x, hx, hg⟩
  have hst : ∀ x ∈ es.toList, ∀ z, rowElem (H := H) w base e q x.val = some z → rowElem w' base e q x.val = some z := fun x hx z hz => by
    obtain ⟨zs, ho, rfl⟩ := rowElem_inv hz
    exact rowElem_mk (hmv x hx zs ho)
  obtain ⟨F1, hmap, _⟩ := F.stay hst
  refine ⟨es, clock, hb'.trans hb, F1, hs, by rw [hmap], hbb, fun x hx zs ho => ?_, hap⟩
  obtain ⟨y, hy⟩ := F.reads x hx
  obtain ⟨z, hz, _⟩ := rd_val hy
  obtain ⟨zs0, ho0, _⟩ := rowElem_inv hz
  rw [ho.unique (hmv x hx zs0 ho0)]
  exact hlen x hx zs0 ho0
theorem groups_upd {S : Nat → Prop} (h : w.ownsGroups P k base e q b n D) (hu : Upd S w w') (hb : ¬ S b) (hS : ∀ g, base ≤ g → ¬ S g) : w'.ownsGroups P k base e q b n D := by
  have hlt : b < w.heap.size := by
    obtain ⟨es, clock, hb, _⟩ := h
    exact (Array.getElem?_eq_some_iff.1 hb).1
  exact groups_move h (hu.block b hlt hb) fun g hg hg2 _ _ => hu.block g hg2 (hS g hg)
theorem groups_lt (h : w.ownsGroups P k base e q b n D) : b < w.heap.size ∧ b < base := by
  obtain ⟨es, clock, hb, _, _, _, hbb, _⟩ := h
  exact ⟨(Array.getElem?_eq_some_iff.1 hb).1, hbb⟩
/-- a look-up, in whatever world that has this map -/
theorem groups_at {t E : TypeId} {key : Value} {kl : Lit} (h : w.ownsGroups P k base e q b n D) (K : Keyed P k) (ht : P.underlying t = some (.map k E)) (hz : ∀ w, (zeroValue E).run P w = .ok (.slice none 0 0) w) (hn : n < maxLen) (hkey : keyOf P k key = some kl) :
    ∃ v zs, (∀ wx : World, wx.heap[b]? = w.heap[b]? → (Instr.lookup t (.map (some b)) key false).run P wx = .ok v wx) ∧ D.atKey kl .nil = rowDatum q v zs ∧ w.ownsInts base e q v zs ∧ zs.length ≤ n ∧ w.groupBack P t k base e q b n D key kl v ∧ (∀ No : Nat → Prop, w.Shuns b No → ∀ g, v.ownBlock = some g → ¬ No g) := by
  obtain ⟨es, clock, hb, F, hs, rfl, hbb, hlen, hap⟩ := h
  rcases Maps.fit_look false K ht (hz w) hb F hkey with ⟨hrun, hno, hat⟩ | ⟨e0, y, hm0, h3, hrun, hR, hat, _⟩
  · refine ⟨.slice none 0 0, [], fun wx hx => ?_, hat _, World.ownsInts_nil _ _ _ _, Nat.zero_le _, groups_back K ht hb F hs hn hbb hlen hap hkey (fun x _ _ => ?_) (by simp [Value.ownBlock]), fun _ _ g hg => by cases hg⟩
    · rcases Maps.fit_look false K ht (hz wx) (hx.trans hb) F hkey with ⟨hr, _, _⟩ | ⟨e0, y, hm0, h3, _⟩
      · exact hr
      · exact absurd h3 (hno e0 hm0)
    · cases x.val.ownBlock <;> simp [Value.ownBlock]
  · obtain ⟨zs, ho, rfl⟩ := rowElem_inv hR
    refine ⟨e0.val, zs, fun wx hx => ?_, hat _, ho, hlen e0 hm0 zs ho, groups_back K ht hb F hs hn hbb hlen hap hkey (fun x hx hne => hap x hx e0 hm0 (by rw [h3]; exact hne)) (fun e1 => ?_), fun No hsh g hg => hsh es clock hb e0 hm0 g hg⟩
    · rcases Maps.fit_look false K ht (hz wx) (hx.trans hb) F hkey with ⟨hr, hno, _⟩ | ⟨e1, y, hm1, h4, hr, _⟩
      · exact absurd h3 (hno e0 hm0)
      · have := entry_eq_of_key ((stamped_iff _ _).1 F.stamped).2.2 hm1 hm0 (h4.trans h3.symm)
        rw [this] at hr
        exact hr
    · have := (ho.1.lt b e1).1
      omega
/-- behind a store by the way back, the groups still shun what they shunned -/
theorem back_shuns {t E : TypeId} {key : Value} {kl : Lit} {w0 w1 w2 : World} {v v' : Value} {zs : List Int} {No : Nat → Prop} (K : Keyed P k) (ht : P.underlying t = some (.map k E)) (hkey : keyOf P k key = some kl) (hown0 : w0.ownsGroups P k base e q b n D) (hn : n < maxLen) (hu : w0.ownsInts base e q v zs) (hsh : w0.Shuns b No) (hno : ∀ g, v'.ownBlock = some g → ¬ No g)
    (hgr : w0.grownBy w1 v.ownBlock) (hrun : (Instr.mapUpdate t (.map (some b)) key v').run P w1 = .ok () w2) : w2.Shuns b No := by
  obtain ⟨es, clock, hb, F, hs, _, hbb, _⟩ := hown0
  have hblt : b < w0.heap.size := (Array.getElem?_eq_some_iff.1 hb).1
  have hb1 : w1.heap[b]? = some (.map es clock) := (hgr.block b hblt (fun e1 => by have := (hu.1.lt b e1.symm).1; omega)).trans hb
  obtain ⟨es', clock', hb2, hwho⟩ := stored_who K ht hb1 F (Nat.lt_of_le_of_lt hs hn) hkey hrun
  intro es2 clock2 hb2' y hy g hyg
  obtain ⟨rfl, rfl⟩ : es' = es2 ∧ clock' = clock2 := by rw [hb2] at hb2'; simpa using hb2'
  rcases hwho y hy with ⟨hy0, _⟩ | ⟨_, hval⟩
  · exact hsh es clock hb y hy0 g hyg
  · exact hno g (hval ▸ hyg)
theorem shuns_move {No : Nat → Prop} (h : w.Shuns b No) (hb : w'.heap[b]? = w.heap[b]?) : w'.Shuns b No := fun es clock hb' => h es clock (hb.symm.trans hb')
/-- one element, of some cells in a block of its own, behind a row of one's own -/
theorem app_cells {P : Program} (W : World) (base : Nat) (t e ty : TypeId) (z : Value) (size bytes : Nat) (ht : P.underlying t = some (.slice e)) (hinfo : (P.info? e).map (fun i => (i.zero, i.size, i.bytes)) = some (some z, size, bytes)) (hz : z.cells.size = size) (hs0 : 0 < size) (hb0 : 0 < bytes)
    (v : Value) (n : Nat) (xs : List Value) (g1 : Nat) (cs : List Value) (hcs : cs.length = size) (h1 : ∀ u ∈ cs, u.oneCell' = true) (HO : W.ownsRow base e size v n xs) (HB : Blk W g1 e cs) (hbase : base ≤ W.heap.size) (hl : (n + 1) * bytes ≤ 140737488355328) :
    ∃ v1 w1, (Builtin.append_ #[t, t] ty #[v, .slice (some ⟨g1, 0, none⟩) 1 1]).run P W = .ok v1 w1 ∧ w1.ownsRow base e size v1 (n + 1) (xs ++ cs) ∧ W.grownBy w1 v.ownBlock ∧ (v1.ownBlock = v.ownBlock ∨ ∃ k, v1.ownBlock = some k ∧ W.heap.size ≤ k) := by
  obtain ⟨i0, hi, hzz⟩ := Option.map_eq_some_iff.1 hinfo
  simp only [Prod.mk.injEq] at hzz
  obtain ⟨hz0, hz1, hz2⟩ := hzz
  have hlen : n + 1 ≤ 140737488355328 := Nat.le_trans (Nat.le_mul_of_pos_right _ hb0) hl
  obtain ⟨v1, w1, hr, h2, h3, _, h5⟩ := run_append_own_at (P := P) W base t ty e i0 z size bytes ht hi hz0 hz1 hz2 hz hs0 v n xs HO ⟨g1, 0, none⟩ 1 1 cs (by rw [hcs]; simp)
    (fun j u hu => by rw [add_plain, HB.at_]; simpa using hu) h1 (by simp only [maxLen]; omega) hl hbase
  exact ⟨v1, w1, hr, h2, h3, h5.imp id fun h => ⟨_, h, Nat.le_refl _⟩⟩
/-- a whole row behind one's own -/
theorem app_many {P : Program} (W : World) (base : Nat) (t e ty : TypeId) (z : Value) (size bytes : Nat) (ht : P.underlying t = some (.slice e)) (hinfo : (P.info? e).map (fun i => (i.zero, i.size, i.bytes)) = some (some z, size, bytes)) (hz : z.cells.size = size) (hs0 : 0 < size) (hb0 : 0 < bytes)
    (v : Value) (n : Nat) (xs : List Value) (A : Option Addr) (m c : Nat) (news : List Value) (hcs : news.length = m * size) (h1 : ∀ u ∈ news, u.oneCell' = true) (hc : 0 < m → ∃ ad, A = some ad ∧ ∀ j u, news[j]? = some u → W.cell? (ad.add j) = some u)
    (HO : W.ownsRow base e size v n xs) (hbase : base ≤ W.heap.size) (hl : (n + m) * bytes ≤ 140737488355328) :
    ∃ v1 w1, (Builtin.append_ #[t, t] ty #[v, .slice A m c]).run P W = .ok v1 w1 ∧ w1.ownsRow base e size v1 (n + m) (xs ++ news) ∧ W.grownBy w1 v.ownBlock ∧ (v1.ownBlock = v.ownBlock ∨ ∃ k, v1.ownBlock = some k ∧ W.heap.size ≤ k) := by
  obtain ⟨i0, hi, hzz⟩ := Option.map_eq_some_iff.1 hinfo
  simp only [Prod.mk.injEq] at hzz
  obtain ⟨hz0, hz1, hz2⟩ := hzz
  have hlen : n + m ≤ 140737488355328 := Nat.le_trans (Nat.le_mul_of_pos_right _ hb0) hl
  rcases Nat.eq_zero_or_pos m with h0 | hpos
  · subst h0
    obtain rfl : news = [] := List.eq_nil_of_length_eq_zero (by simpa using hcs)
    refine ⟨v, W, ?_, by simpa using HO, World.grownBy.refl W _, .inl rfl⟩
    have hld : ∀ ad : Addr, (loadCells ad 0).run P W = .ok #[] W := fun ad => by simpa using run_loadCells_list (P := P) W ad [] (by simp)
    rcases HO.2 with ⟨rfl, hn⟩ | ⟨g, cap, cur, rfl, _, _, hnc, _⟩
    · cases A <;> simp [Builtin.append_, run_underlying ht, sizeOf, typeInfo, hi, Builtin.lenOf, Builtin.firstCells, hld]
    · cases A <;> simp [Builtin.append_, run_underlying ht, sizeOf, typeInfo, hi, Builtin.lenOf, Builtin.firstCells, hnc, storeCells, hld]
  · obtain ⟨ad, rfl, hcells⟩ := hc hpos
    obtain ⟨v1, w1, hr, h2, h3, _, h5⟩ := run_append_own_at (P := P) W base t ty e i0 z size bytes ht hi hz0 hz1 hz2 hz hs0 v n xs HO ad m c news hcs hcells h1 (by simp only [maxLen]; omega) hl hbase
    exact ⟨v1, w1, hr, h2, h3, h5.imp id fun h => ⟨_, h, Nat.le_refl _⟩⟩
/-- a store into a map by the equation of its run -/
theorem wpList_mapUpdate_run {P : Program} {w w2 : World} {ops : Array Oper} {rest : List Oper} {o : Oper} {a : Act} {Q : Exit → Act → World → Prop}
    (hg : o.guard = none) (m x v : Operand) (t : TypeId) (hop : o.op = Op.mapUpdate t m x v) {vm vx vv : Value} (hm : a.eval m = vm) (hx : a.eval x = vx) (hv : a.eval v = vv)
    (hrun : (Instr.mapUpdate t vm vx vv).run P w = .ok () w2) (hK : wpList P ops Q rest (a.put o.dst undef) w2) : wpList P ops Q (o :: rest) a w := by
  refine wpList_plain hg fun K' hK' => ?_
  unfold Oper.wp
  simp [execOp, hop, hm, hx, hv, hrun, Result.andThen]
  exact hK' _ _ hK
end
end Go.Proofs.Ytkapekndfnefeaa.F

-- SgnI
namespace Go.Proofs.Ytkapekndfnefeaa.F
open Go Go.RowKit Go.Proofs.YtkapekndfnefeaaW.PrintWords Go.Proofs.YtkapekndfnefeaaW.PrintLast Go.Proofs.YtkapekndfnefeaaW.PrintMore Go.Proofs.YtkapekndfnefeaaM Go.Proofs.YtkapekndfnefeaaR
open Go.Maps (Keyed)
open Go.ChangeShapes
attribute [local go_sem] max2_int min2_int max_two min_two
set_option linter.unusedSimpArgs false
set_option linter.unusedVariables false
set_option maxRecDepth 100000
/-- a row of one's own of signatures is read -/
theorem sg_reps (w : World) : ∀ l : List S25, Reps (k25.K w) 2 l (sgs l) := by
  intro l
  refine ⟨sgs_length l, fun j p hj => ?_⟩
  have hlt := (List.getElem?_eq_some_iff.1 hj).1
  obtain ⟨h1, h2⟩ := sgs_get l j hlt
  have hp : l.getD j z25 = p := by rw [List.getD, hj]; rfl
  rw [hp] at h1 h2
  have : (List.take 2 (List.drop (j * 2) (sgs l))) = [.int .u32 p.f0, .string p.f1] := by
    apply List.ext_getElem?
    intro i
    rcases i with _ | _ | i
    · simpa using h1
    · simpa using h2
    · simp; omega
  rw [this]
  exact k25_mk w p
theorem sg_C {w : World} {base n : Nat} {v : Value} {l : List S25} (h : w.ownsRow base 25 2 v n (sgs l)) (hn : l.length = n) : ∃ A c, v = .slice A n c ∧ n ≤ c ∧ Kd.C k25 w A n l := by
  obtain ⟨A, c, rfl, hr⟩ := own_reads_row h (sg_reps w l) hn
  exact ⟨A, c, rfl, own_le h, hr⟩
/-- where the signatures of a weak sum stand -/
def posns (L : List S25) (n : Int) : List Int := ((List.range L.length).filter fun i => decide ((L.getD i z25).f0 = n)).map fun i : Nat => (i : Int)
theorem posns_snoc (L : List S25) (x : S25) (n : Int) : posns (L ++ [x]) n = posns L n ++ (if x.f0 = n then [(L.length : Int)] else []) := by
  unfold posns
  rw [List.length_append, List.length_singleton, List.range_succ, List.filter_append, List.map_append]
  congr 1
  · congr 1
    apply List.filter_congr
    intro i hi
    rw [List.mem_range] at hi
    rw [show (L ++ [x]).getD i z25 = L.getD i z25 from by simp [List.getD, List.getElem?_append_left hi]]
  · by_cases h : x.f0 = n <;> simp [List.getD, h]
theorem posns_len (L : List S25) (n : Int) : (posns L n).length ≤ L.length := by
  unfold posns
  rw [List.length_map]
  exact Nat.le_trans (List.length_filter_le _ _) (by simp)
/-- the map as it reads: at each weak sum the places of those -/
def GD (D : DataW Unit) (L : List S25) : Prop := Maps.IsMap D ∧ ∀ n : Int, (D.atKey (.int .u32 n) .nil = .nil ∧ posns L n = []) ∨ D.atKey (.int .u32 n) .nil = .slice (lits .i64 (posns L n)) []
theorem GD.nil : GD (.map []) [] := ⟨Maps.isMap_empty, fun n => .inl ⟨rfl, rfl⟩⟩
theorem lits_inj {q : IntKind} {a b : List Int} (h : (lits (H := Unit) q a) = lits q b) : a = b := by
  unfold lits at h
  exact (List.map_inj_right (fun x y hxy => by simpa using hxy)).1 h
theorem GD.at_ {D : DataW Unit} {L : List S25} {w : World} {base : Nat} {e : TypeId} {v : Value} {zs : List Int} {n : Int} (h : GD D L) (hat : D.atKey (.int .u32 n) .nil = rowDatum .i64 v zs) (ho : w.ownsInts base e .i64 v zs) : zs = posns L n := by
  rcases h.2 n with ⟨h1, h2⟩ | h1
  · rw [h2]
    rcases ho.datum (H := Unit) with ⟨h3, h4⟩ | h3
    · exact h4
    · rw [hat, h3] at h1; cases h1
  · rcases ho.datum (H := Unit) with ⟨h3, h4⟩ | h3
    · rw [hat, h3] at h1; cases h1
    · rw [hat, h3] at h1
      have := lits_inj (DataW.slice.inj h1).1
      exact this
theorem GD.put {D : DataW Unit} {L : List S25} (h : GD D L) (x : S25) : GD (D.put (.int .u32 x.f0) (.slice (lits .i64 (posns L x.f0 ++ [(L.length : Int)])) [])) (L ++ [x]) := by
  refine ⟨h.1.put _ _, fun n => ?_⟩
  rw [posns_snoc]
  by_cases hn : x.f0 = n
  · subst hn
    right
    rw [Maps.atKey_put_same h.1 (show WideAt.IsKeyLit (.int .u32 x.f0) from trivial), if_pos rfl]
  · rw [Maps.atKey_put_other (fun e => hn (by simpa using e.symm)), if_neg hn, List.append_nil]
    exact h.2 n
theorem zeroG (w : World) : (zeroValue 54).run Try.prog w = .ok (.slice none 0 0) w := by kernel_rfl
theorem keyG : Keyed Try.prog 23 := Maps.int_keyed Try.underlying23
theorem infoI : (Try.prog.info? 3).map (fun i => (i.zero, i.size, i.bytes)) = some (some (.int .i64 0), 1, 8) := by kernel_rfl
/-- an index in memory: all its blocks lie from B on; L: its row, G: what its map was made of -/
structure Idx (B p : Nat) (L G : List S25) (lv : Value) (b base : Nat) (D : DataW Unit) (w : World) : Prop where
  cells : Blk w p 53 [lv, .map (some b)]
  row : w.ownsRow B 25 2 lv L.length (sgs L)
  grp : w.ownsGroups Try.prog 23 base 3 .i64 b G.length D
  shun : w.Shuns b (fun g => lv.ownBlock = some g)
  reads : GD D G
  hp : B ≤ p
  hb : B ≤ b
theorem Idx.upd {B p : Nat} {L G : List S25} {lv : Value} {b base : Nat} {D : DataW Unit} {w w' : World} {S : Nat → Prop} (h : Idx B p L G lv b base D w) (hu : Upd S w w') (hS : ∀ k, B ≤ k → ¬ S k) : Idx B p L G lv b base D w' := by
  have hg := groups_lt h.grp
  have hb := h.hb
  exact ⟨h.cells.upd hu (hS p h.hp), hu.own h.row (fun k hk => hS k (own_base h.row k hk)), groups_upd h.grp hu (hS b hb) (fun g hg2 => hS g (by omega)), shuns_move h.shun (hu.block b hg.1 (hS b hb)), h.reads, h.hp, h.hb⟩
theorem Idx.grew {B p : Nat} {L G : List S25} {lv : Value} {b base : Nat} {D : DataW Unit} {w w' : World} (h : Idx B p L G lv b base D w) (hu : Grew w w') : Idx B p L G lv b base D w' := h.upd (Upd.of_grew (S := fun _ => False) hu) fun _ _ h => h
theorem Idx.mapAt {B p : Nat} {L G : List S25} {lv : Value} {b base : Nat} {D : DataW Unit} {w : World} (h : Idx B p L G lv b base D w) : ∃ es clock, w.heap[b]? = some (.map es clock) := by
  obtain ⟨es, clock, hb, _⟩ := h.grp
  exact ⟨es, clock, hb⟩
theorem Idx.ne {B p : Nat} {L G : List S25} {lv : Value} {b base : Nat} {D : DataW Unit} {w : World} (h : Idx B p L G lv b base D w) : p ≠ b ∧ lv.ownBlock ≠ some b ∧ lv.ownBlock ≠ some p := by
  obtain ⟨es, clock, hb⟩ := h.mapAt
  refine ⟨fun e => ?_, fun e => ?_, fun e => own_ne h.row h.cells (by decide) e.symm⟩
  · have := h.cells
    unfold Blk at this
    rw [e, hb] at this
    cases this
  · obtain ⟨cur, hc⟩ := own_cells h.row e
    rw [hb] at hc
    cases hc
/-- behind an append to its row -/
theorem Idx.app {B p : Nat} {L G : List S25} {lv v1 : Value} {b base : Nat} {D : DataW Unit} {w w' : World} {x : S25} (h : Idx B p L G lv b base D w) (hu : Upd (fun k => lv.ownBlock = some k) w w')
    (hrow : w'.ownsRow B 25 2 v1 (L.length + 1) (sgs L ++ [.int .u32 x.f0, .string x.f1])) (hat : v1.ownBlock = lv.ownBlock ∨ ∃ k, v1.ownBlock = some k ∧ w.heap.size ≤ k) :
    Idx B p (L ++ [x]) G v1 b base D (w'.setCell ⟨p, 0, none⟩ v1) := by
  obtain ⟨n1, n2, n3⟩ := h.ne
  have hg := groups_lt h.grp
  have hc := h.cells.upd hu n3
  have hrow' : w'.ownsRow B 25 2 v1 (L ++ [x]).length (sgs (L ++ [x])) := by rw [sgs_snoc, List.length_append]; exact hrow
  have hset : Upd (fun k => k = p) w' (w'.setCell ⟨p, 0, none⟩ v1) := Upd.set (S := fun k => k = p) (p := ⟨p, 0, none⟩) (Upd.refl _ _) (.inl rfl) _
  have hgr : w'.ownsGroups Try.prog 23 base 3 .i64 b G.length D := groups_move h.grp (hu.block b hg.1 n2) fun g hg1 hg2 _ hex => hu.block g hg2 (by
    obtain ⟨es, clock, hb⟩ := h.mapAt
    obtain ⟨y, hy, hyg⟩ := hex es clock hb
    exact h.shun es clock hb y hy g hyg)
  have hb' : (w'.setCell ⟨p, 0, none⟩ v1).heap[b]? = w'.heap[b]? := hset.block b (Nat.lt_of_lt_of_le hg.1 hu.size) (fun e => n1 e.symm)
  refine ⟨?_, hset.own hrow' (fun k hk e => own_ne hrow' hc (by decide) (by rw [← e, hk])), groups_move hgr hb' (fun g hg1 hg2 hcells _ => hset.block g hg2 fun e => ?_), ?_, h.reads, h.hp, h.hb⟩
  · have := hc.set 0 v1
    simpa using this
  · obtain ⟨cur, hcu⟩ := hcells
    unfold Blk at hc
    rw [e, hc] at hcu
    simp at hcu
  · refine shuns_move ?_ hb'
    refine shuns_move (w := w) ?_ (hu.block b hg.1 n2)
    rcases hat with hat | ⟨k, hk, hk2⟩
    · rw [hat]; exact h.shun
    · refine h.shun.reno h.grp fun g hg3 => .inr ?_
      rw [hk] at hg3
      obtain rfl := Option.some.inj hg3
      exact hk2
/-- behind a place that is laid to the others of its weak sum -/
theorem Idx.put {B p : Nat} {L G : List S25} {lv v v' : Value} {b base : Nat} {D : DataW Unit} {w w1 : World} {zs : List Int} {x : S25} (h : Idx B p L G lv b base D w) (hn : G.length < 9223372036854775807) (hwf : (Lit.int .u32 x.f0).wf = true)
    (hat : D.atKey (.int .u32 x.f0) .nil = rowDatum .i64 v zs) (hoi : w.ownsInts base 3 .i64 v zs) (hzl : zs.length ≤ G.length) (hback : w.groupBack Try.prog 51 23 base 3 .i64 b G.length D (.int .u32 x.f0) (.int .u32 x.f0) v)
    (hgr : w.grownBy w1 v.ownBlock) (hown : w1.ownsRow base 3 1 v' (zs.length + 1) (zs.map (Value.int .i64) ++ [.int .i64 (G.length : Int)])) (hloc : v'.ownBlock = v.ownBlock ∨ ∃ k, v'.ownBlock = some k ∧ w.heap.size ≤ k) :
    ∃ w2 D', (Instr.mapUpdate 51 (.map (some b)) (.int .u32 x.f0) v').run Try.prog w1 = .ok () w2 ∧ Idx B p L (G ++ [x]) lv b base D' w2 ∧ Upd (fun k => B ≤ k) w w2 := by
  have hoi' := hoi.appended hown (WalkArith.wf_i64 (by omega))
  obtain ⟨w2, hrun, hgrp, hg2⟩ := hback w1 v' _ hgr hoi' (by simp; omega) hloc
  obtain ⟨n1, n2, n3⟩ := h.ne
  have hgl := groups_lt h.grp
  have hb := h.hb
  have hzs := h.reads.at_ hat hoi
  have hu1 : Upd (fun k => v.ownBlock = some k) w w1 := Upd.of_grown hgr
  have hu2 : Upd (fun k => k = b) w1 w2 := (Upd.of_grown hg2).mono fun k _ h => (Option.some.inj h).symm
  have t1 := own_ne hoi.1 h.cells (by decide)
  have t2 := own_type_ne h.row hoi.1 (by decide)
  have hkey : keyOf Try.prog 23 (.int .u32 x.f0) = some (.int .u32 x.f0) := Maps.keyOf_int_mk Try.underlying23 hwf
  have hrow1 := hu1.own h.row (fun k hk hk2 => by
    rcases t2 with t2 | t2
    · rw [t2] at hk; cases hk
    · exact t2 (hk.trans hk2.symm))
  refine ⟨w2, D.put (.int .u32 x.f0) (rowDatum .i64 v' (zs ++ [(G.length : Int)])), hrun, ⟨(h.cells.upd hu1 (fun e => t1 e.symm)).upd hu2 n1, hu2.own hrow1 (fun k hk e => n2 (by rw [hk, e])), ?_, ?_, ?_, h.hp, h.hb⟩, ?_⟩
  · rw [List.length_append]; exact hgrp
  · have t3 := own_type_ne hown (w := w1) hrow1 (by decide)
    refine back_shuns keyG Try.underlying51 hkey h.grp (by unfold maxLen; omega) hoi h.shun (fun g hg hg3 => ?_) hgr hrun
    rcases t3 with t3 | t3
    · rw [t3] at hg; cases hg
    · exact t3 (hg.trans hg3.symm)
  · rw [hoi'.datum_pos (by simp), hzs]
    exact h.reads.put x
  · refine (hu1.mono fun k _ hk => ?_).trans (hu2.mono fun k _ hk => by rw [hk]; exact hb)
    have := (hoi.1.lt k hk).1
    omega
def IdxV (B : Nat) (L : List S25) : World → Value → Prop := fun w v => ∃ p lv b base D, v = .pointer (some ⟨p, 0, none⟩) ∧ Idx B p L L lv b base D w
/-- a slice of one element of some cells in a block of its own, which is not the row that is written -/
def OneC (e : TypeId) (cs : List Value) (vb : Value) : World → Value → Prop := fun w v => ∃ g1, v = .slice (some ⟨g1, 0, none⟩) 1 1 ∧ Blk w g1 e cs ∧ some g1 ≠ vb.ownBlock
theorem OneC.stableB (e : TypeId) (cs : List Value) (vb : Value) : ∀ w w' v, Grew w w' ∨ w.grownBy w' vb.ownBlock → OneC e cs vb w v → OneC e cs vb w' v :=
  fun _ _ _ hr ⟨g1, h1, h2, h3⟩ => ⟨g1, h1, hr.elim h2.grew (fun hg => blk_grown h2 hg h3), h3⟩
theorem OneC.new {w : World} {e : TypeId} {cs : List Value} {vb : Value} (h : ∀ k, vb.ownBlock = some k → k < w.heap.size) : OneC e cs vb (w.alloc (.cells cs.toArray e)) (.slice (some ⟨w.heap.size, 0, none⟩) 1 1) :=
  ⟨_, rfl, Blk.new w e cs, fun he => by have := h _ he.symm; omega⟩
/-- the row behind an append -/
def AppS (base : Nat) (e : TypeId) (size : Nat) (cs : List Value) (n : Nat) (vb : Value) (N : Nat) : World → Value → Prop := fun w v => w.ownsRow base e size v n cs ∧ (v.ownBlock = vb.ownBlock ∨ ∃ k, v.ownBlock = some k ∧ N ≤ k)
end Go.Proofs.Ytkapekndfnefeaa.F

-- SgnN
namespace Go.Proofs.Ytkapekndfnefeaa.F
open Go Go.RowKit Go.Proofs.YtkapekndfnefeaaW.PrintWords Go.Proofs.YtkapekndfnefeaaW.PrintLast Go.Proofs.YtkapekndfnefeaaW.PrintMore Go.Proofs.YtkapekndfnefeaaM Go.Proofs.YtkapekndfnefeaaR
open Go.Maps (Keyed)
open Go.ChangeShapes
attribute [local go_sem] max2_int min2_int max_two min_two
set_option linter.unusedSimpArgs false
set_option linter.unusedVariables false
set_option maxRecDepth 100000
theorem Upd.grownBy_none {a b : World} (h : Upd (fun _ => False) a b) (row : Option Nat) : a.grownBy b row := ⟨h.os, h.tape, h.output, h.size, fun i hi _ => h.block i hi (fun h => h)⟩
theorem late_upd {W wx : World} {row : Option Nat} (h : Grew W wx ∨ ∃ w1, Grew W w1 ∧ w1.grownBy wx row) : Upd (fun k => row = some k) W wx := by
  rcases h with h | ⟨w1, h1, h2⟩
  · exact Upd.of_grew h
  · exact (Upd.of_grew h1).grown h2 fun k hk => .inl hk
set_option maxHeartbeats 4000000 in
theorem inew_c (w : World) (A : Option Addr) (n c : Nat) (L : List S25) (hC : Kd.C k25 w A n L) (hn : L.length = n) (hc : n ≤ c) (hwf : ∀ x ∈ L, (Lit.int .u32 x.f0).wf = true) :
    Calls Try.prog 17 #[.slice A n c] w (Tells w (IdxV w.heap.size (L.take 1024))) := by
  obtain ⟨M, hM⟩ : ∃ M, M = min n 1024 := ⟨_, rfl⟩
  have hMl : (L.take 1024).length = M := by rw [List.length_take, hn, hM, Nat.min_comm]
  have hm1 : (if (n : Int) < 1024 then (n : Int) else 1024) = (M : Int) := by rw [hM]; split <;> omega
  have hm2 : (if (1024 : Int) < (n : Int) then (1024 : Int) else (n : Int)) = (M : Int) := by rw [hM]; split <;> omega
  have hMc : (M : Int) ≤ (c : Int) := by omega
  have hM2 : M ≤ 1024 := by omega
  have HC := Lib.hid hC
  have HML := Lib.hid hMl
  have HWF := Lib.hid hwf
  have HN := Lib.hid hn
  have hI0 : Idx w.heap.size (w.heap.size + 1) [] [] (.slice none 0 0) w.heap.size (w.heap.size + 1) (.map []) ((w.alloc (.map #[] 0)).alloc (.cells #[.slice none 0 0, .map (some w.heap.size)] 53)) := by
    have hz : (w.alloc (.map #[] 0)).heap.size = w.heap.size + 1 := by simp
    refine ⟨?_, World.ownsRow_nil _ _ _ _, groups_upd (S := fun _ => False) (World.ownsGroups_made w _ _ _ _) (Upd.of_grew (Grew.alloc _ _)) id (fun _ _ h => h), shuns_move (World.Shuns_made w _) ?_, GD.nil, by omega, Nat.le_refl _⟩
    · have := Blk.new (w.alloc (.map #[] 0)) 53 [.slice none 0 0, .map (some w.heap.size)]
      rw [hz] at this
      exact this
    · exact (Grew.alloc _ _).block _ (by rw [hz]; omega)
  have HI0 := Lib.hid hI0
  have hG0 : Grew w ((w.alloc (.map #[] 0)).alloc (.cells #[.slice none 0 0, .map (some w.heap.size)] 53)) := (Grew.alloc _ _).trans (Grew.alloc _ _)
  clear hM hC hMl hwf hn hI0
  have hmm := @run_makeMap Try.prog
  obtain ⟨p, hp⟩ : ∃ p, p = w.heap.size + 1 := ⟨_, rfl⟩
  have HP0 := Lib.hid hp
  clear hp
  go_enter Try.func17, Try.ntmps17
  go_wp2_with fail
  rw [← HP0.out]
  go_loopw [15] (fun iv wr => ∃ (pre suf : List S25) (lv : Value) (D : DataW Unit), iv = .int .i64 (pre.length : Int) ∧ L.take 1024 = pre ++ suf ∧ Idx w.heap.size p pre pre lv w.heap.size (w.heap.size + 1) D wr ∧ Grew w wr) (fun iv _ => M - (intOf iv).toNat)
  case atStart => exact ⟨[], L.take 1024, _, _, rfl, rfl, by rw [HP0.out]; exact HI0.out, hG0⟩
  case round =>
    obtain ⟨pre, suf, lv, D, rfl, hp, hI, hgr⟩ := hrel
    have hnn := HML.out
    rw [hp, List.length_append] at hnn
    rcases suf with _ | ⟨x, suf⟩
    · have d1 : decide ((pre.length : Int) < (M : Int)) = false := decide_eq_false (by simp at hnn; omega)
      have d2 : decide (pre.length < M) = false := decide_eq_false (by simp at hnn; omega)
      rw [List.append_nil] at hp
      have HP := Lib.hid hp
      clear hp hnn
      go_wp2_with fail
      go_ret
      exact ⟨_, rfl, ⟨_, _, _, _, _, rfl, by rw [HP.out]; exact hI⟩, hgr⟩
    · have hlt : pre.length < M := by simp at hnn; omega
      have d1 : decide ((pre.length : Int) < (M : Int)) = true := decide_eq_true (by omega)
      have d2 : decide (pre.length < M) = true := decide_eq_true hlt
      have i1 : (pre.length : Int) < (n : Int) := by omega
      obtain ⟨ad0, rfl, k0, k1⟩ := at_T25 HC.out (pre.length : Int) (by omega) i1
      have hxe : rd_T25 L (pre.length : Int) = x := by
        unfold rd_T25; rw [Int.toNat_natCast]
        have : (L.take 1024)[pre.length]? = some x := by rw [hp]; simp
        rw [List.getElem?_take] at this
        split at this
        · simp [List.getD, this]
        · cases this
      rw [Int.toNat_natCast, hxe] at k0 k1
      have k0 := pw_cell_below hgr k0
      have k1 := pw_cell_below hgr k1
      have HP := Lib.hid (show L.take 1024 = (pre ++ [x]) ++ suf from by rw [hp]; simp)
      have hw : IntKind.i64.wrap ((pre.length : Int) + 1) = (pre.length : Int) + 1 := by rw [IntWalk.i64_in _ (by omega)]
      clear hp hnn hxe
      go_wp2_with fail
      obtain ⟨Ar, cr, rfl⟩ := own_slice hI.row
      obtain ⟨g, hg⟩ : ∃ g, g = wr.heap.size := ⟨_, rfl⟩
      obtain ⟨W2, hW2⟩ : ∃ W2, W2 = wr.alloc (.cells #[.int .u32 x.f0, .string x.f1] 25) := ⟨_, rfl⟩
      have hbl : Blk W2 g 25 [.int .u32 x.f0, .string x.f1] := by rw [hW2, hg]; exact Blk.new wr _ _
      have hg2 : Grew wr W2 := by rw [hW2]; exact Grew.alloc _ _
      rw [← hg, ← hW2]
      have hI2 := hI.grew hg2
      have hlr := own_lt hI2.row
      have hlr0 : ∀ k, (Value.slice Ar pre.length cr).ownBlock = some k → k < g := by rw [hg]; exact own_lt hI.row
      have hBs : w.heap.size ≤ W2.heap.size := (hgr.trans hg2).size
      have HI2 := Lib.hid hI2
      have HBL := Lib.hid hbl
      have HG2 := Lib.hid (hgr.trans hg2)
      have CL := Lib.hid (show ∀ wx, Grew W2 wx → wx.cell? ⟨p, 0, none⟩ = some (.slice Ar pre.length cr) from fun wx h => by rw [(hI2.cells.grew h).at_]; rfl)
      have CB := Lib.hid (show ∀ wx, Grew W2 wx → wx.cell? ⟨g, 0, none⟩ = some (.int .u32 x.f0) ∧ wx.cell? ⟨g, 1, none⟩ = some (.string x.f1) from fun wx h => ⟨by rw [(hbl.grew h).at_]; rfl, by rw [(hbl.grew h).at_]; rfl⟩)
      have HWX := Lib.hid (show (Lit.int .u32 x.f0).wf = true from HWF.out x (List.mem_of_mem_take (by rw [HP.out]; simp)))
      have HO := Lib.hid hI2.row
      clear hI hgr k0 k1 hW2 hg hbl hg2 hI2 HC
      apply region_big (fun w w' => w.grownBy w' (Value.slice Ar pre.length cr).ownBlock) [.float, .plain, .plain, .plain, .plain, .plain, .plain, .big] [Is _, Is _, Is _, Is _, Is _, Is _, OneC 25 [.int .u32 x.f0, .string x.f1] (.slice Ar pre.length cr), AppS w.heap.size 25 2 (sgs pre ++ [.int .u32 x.f0, .string x.f1]) (pre.length + 1) (.slice Ar pre.length cr) W2.heap.size] [([(3, none)], none), ([(3, none)], none), ([(21, some 1)], none), ([(22, some 2)], none), ([(23, some 3)], none), ([(5, none)], none), ([(25, some 5)], none), ([(24, some 4), (26, some 6)], none)] [(26, 6), (27, 7), (20, 0), (21, 1), (22, 2), (23, 3), (24, 4), (25, 5)] rfl (by kernel_rfl) (by kernel_rfl) (by kernel_rfl) (by kernel_rfl) rfl (show StableB Grew _ _ _ from ⟨(fun _ => Is.stableB _), (fun _ => Is.stableB _), (fun _ => Is.stableB _), (fun _ => Is.stableB _), (fun _ => Is.stableB _), (fun _ => Is.stableB _), (fun _ => OneC.stableB _ _ _), (fun h_ => absurd rfl h_), trivial⟩)
      · show PhHold _ _ _ _ _ _ _ _ _ _ _
        refine ⟨fun a_ wx hD K hK => ?_, ?_⟩
        · have hF_ := True.intro
          simp [Deps, Dep, at_, Is] at hD
          go_simp
          exact hK _ _ rfl rfl
        refine ⟨fun a_ wx hR hD K hK => ?_, ?_⟩
        · have hG : Grew W2 wx := (Grew.drew _).trans hR
          simp [Deps, Dep, at_, Is] at hD
          go_simp
          exact hK _ _ (Grew.refl _) rfl
        refine ⟨fun a_ wx hR hD K hK => ?_, ?_⟩
        · have hG : Grew W2 wx := (Grew.drew _).trans hR
          simp [Deps, Dep, at_, Is] at hD
          go_simp
          exact hK _ _ (Grew.refl _) rfl
        refine ⟨fun a_ wx hR hD K hK => ?_, ?_⟩
        · have hG : Grew W2 wx := (Grew.drew _).trans hR
          simp [Deps, Dep, at_, Is] at hD
          go_simp
          exact hK _ _ (Grew.refl _) rfl
        refine ⟨fun a_ wx hR hD K hK => ?_, ?_⟩
        · have hG : Grew W2 wx := (Grew.drew _).trans hR
          simp [Deps, Dep, at_, Is] at hD
          have e_ := CL.out wx hG
          go_simp
          exact hK _ _ (Grew.refl _) rfl
        refine ⟨fun a_ wx hR hD K hK => ?_, ?_⟩
        · have hG : Grew W2 wx := (Grew.drew _).trans hR
          simp [Deps, Dep, at_, Is] at hD
          have e0 := (CB.out wx hG).1
          have e1 := (CB.out wx hG).2
          go_simp
          exact hK _ _ (Grew.refl _) rfl
        refine ⟨fun a_ wx hR hD K hK => ?_, ?_⟩
        · have hG : Grew W2 wx := (Grew.drew _).trans hR
          simp [Deps, Dep, at_, Is] at hD
          go_simp
          exact hK _ _ (Grew.alloc _ _) (OneC.new (fun k hk => Nat.lt_of_lt_of_le (hlr k hk) hG.size))
        refine ⟨⟨rfl, fun a_ wx hR hD K hK => ?_⟩, ?_⟩
        · have hG : Grew W2 wx := (Grew.drew _).trans hR
          simp [Deps, Dep, at_, Is] at hD
          obtain ⟨hd0, hd1⟩ := hD
          obtain ⟨g1, h1, h2, h3⟩ := hd1
          obtain ⟨v1, wy, hrun, hown1, hgr1, hat1⟩ := app_cells (P := Try.prog) wx w.heap.size 34 25 34 (.agg #[.int .u32 0, .string ⟨#[]⟩]) 2 24 Try.underlying34 infoSg rfl (by decide) (by decide) _ pre.length (sgs pre) g1 [.int .u32 x.f0, .string x.f1] rfl (by intro v hv; simp at hv; rcases hv with rfl | rfl <;> rfl) (pw_own_below HO.out hG) h2 (Nat.le_trans hBs hG.size) (by omega)
          exact wp_app (.tmp 24) (.tmp 26) 34 rfl (eval_tmp hd0) (eval_tmp h1) hrun (hK _ _ hgr1 ⟨hown1, hat1.imp id (fun h => ⟨_, h.choose_spec.1, Nat.le_trans hG.size h.choose_spec.2⟩)⟩)
        trivial
      · show EndHold _ _ _ _ _ _ _
        intro v26
        intro v27
        refine end_all (xs := [_, _, _, _, _, _]) ⟨rfl, rfl, rfl, rfl, rfl, rfl, trivial⟩ ?_
        rintro w3 hR1 ⟨⟨-, hOne⟩, hApp⟩
        refine ⟨?_⟩
        obtain ⟨wm_w3, hRm, hP_w3⟩ := hR1
        have hG_w3 : Grew W2 wm_w3 := (Grew.drew _).trans hRm
        clear hRm
        simp only [Act.put, List.setIfInBounds_toArray, List.set_cons_succ, List.set_cons_zero, dropN, putEach]
        obtain ⟨hro, hat⟩ := hApp
        obtain ⟨A4, c4, rfl⟩ := own_slice hro
        have hu3 : Upd (fun k => (Value.slice Ar pre.length cr).ownBlock = some k) W2 w3 := (Upd.of_grew hG_w3).grown hP_w3 fun k hk => .inl hk
        have hI4 := HI2.out.app hu3 hro hat
        have hne3 := HI2.out.ne.2.2
        have hcl3 := HI2.out.cells.upd hu3 hne3
        have hbl3 := HBL.out.upd hu3 (fun hk => by have := hlr0 g hk; omega)
        have q0 := hcl3.at_ 0
        have f0 := hcl3.fz 0
        simp only [List.getElem?_cons_zero] at q0
        have hgp : g ≠ p := fun e => by
          have h1 := HBL.out; have h2 := HI2.out.cells
          unfold Blk at h1 h2
          rw [e, h2] at h1
          simp at h1
        obtain ⟨W4, hW4⟩ : ∃ W4, W4 = w3.setCell ⟨p, 0, none⟩ (.slice A4 (pre.length + 1) c4) := ⟨_, rfl⟩
        rw [← hW4] at hI4
        have hset : Upd (fun k => k = p) w3 W4 := by rw [hW4]; exact Upd.set (S := fun k => k = p) (p := ⟨p, 0, none⟩) (Upd.refl _ _) (.inl rfl) _
        have hbl4 := hbl3.upd hset hgp
        have hu4 : Upd (fun k => w.heap.size ≤ k) w W4 := (Upd.of_grew HG2.out).trans ((hu3.mono fun k _ hk => own_base HO.out k hk).trans (hset.mono fun k _ hk => by rw [hk]; exact hI4.hp))
        have HW4 := Lib.hid hW4
        have HHN := Lib.hid hne3
        clear hro hat hu3 hcl3 hbl3 hset hlr hlr0 hP_w3 hG_w3 hOne hBs hW4 hne3 hgp
        go_wp2_with fail
        rw [← HW4.out]
        clear q0 f0
        have hpl : (pre.length : Int) ≤ 1024 := by omega
        obtain ⟨v, zs, hlk, hdat, hoi, hzl, hback, hsh⟩ := groups_at hI4.grp keyG Try.underlying51 zeroG (by unfold maxLen; omega) (Maps.keyOf_int_mk Try.underlying23 HWX.out)
        have hmlt := groups_lt hI4.grp
        have hpv := own_ne hoi.1 hI4.cells (by decide)
        have hgv := own_ne hoi.1 hbl4 (by decide)
        have hvlt := own_lt hoi.1
        have hB4 : w.heap.size + 1 ≤ W4.heap.size := hmlt.1
        have CM := Lib.hid (show ∀ wx, (Grew W4 wx ∨ ∃ w1, Grew W4 w1 ∧ w1.grownBy wx v.ownBlock) → wx.cell? ⟨p, 1, none⟩ = some (.map (some w.heap.size)) from fun wx h => by rw [(hI4.cells.upd (late_upd h) (fun e => hpv e.symm)).at_]; rfl)
        have CW := Lib.hid (show ∀ wx, (Grew W4 wx ∨ ∃ w1, Grew W4 w1 ∧ w1.grownBy wx v.ownBlock) → wx.cell? ⟨g, 0, none⟩ = some (.int .u32 x.f0) from fun wx h => by rw [(hbl4.upd (late_upd h) (fun e => hgv e.symm)).at_]; rfl)
        have CK := Lib.hid (show ∀ wx, Grew W4 wx → (Instr.lookup 51 (.map (some w.heap.size)) (.int .u32 x.f0) false).run Try.prog wx = .ok v wx from fun wx h => hlk wx (h.block _ hmlt.1))
        have HOI := Lib.hid hoi
        have HI4 := Lib.hid hI4
        have HU4 := Lib.hid hu4
        have HDA := Lib.hid hdat
        have HBK := Lib.hid hback
        have hzl2 : zs.length ≤ 1024 := by omega
        clear hI4 hlk hdat hoi hback hsh hbl4 hu4 hpv hgv hmlt
        apply region_bigF (fun w w' => w.grownBy w' v.ownBlock) [.float, .float, .float, .float, .float, .float, .plain, .plain, .plain, .plain, .plain, .plain, .plain, .plain, .plain, .big] [Is _, Is _, Is _, Is _, Is _, Is _, Is _, Is _, Is _, Is _, Is _, Is _, Is _, Is _, OneC 3 [.int .i64 (pre.length : Int)] v, AppS (w.heap.size + 1) 3 1 (zs.map (Value.int .i64) ++ [.int .i64 (pre.length : Int)]) (zs.length + 1) v W4.heap.size] [([(3, none)], none), ([(30, some 0)], none), ([(31, some 1)], none), ([(32, some 2)], none), ([(5, none)], none), ([(34, some 4)], none), ([(3, none)], none), ([(36, some 6)], none), ([(37, some 7)], none), ([(38, some 8)], none), ([(5, none)], none), ([(40, some 10)], none), ([(39, some 9), (41, some 11)], none), ([(4, none)], none), ([(43, some 13)], none), ([(42, some 12), (44, some 14)], none)] [(44, 14), (45, 15), (30, 0), (31, 1), (32, 2), (33, 3), (34, 4), (35, 5), (36, 6), (37, 7), (38, 8), (39, 9), (40, 10), (41, 11), (42, 12), (43, 13)] rfl (by kernel_rfl) (by kernel_rfl) (by kernel_rfl) (by kernel_rfl) rfl (show StableB Grew _ _ _ from ⟨(fun _ => Is.stableB _), (fun _ => Is.stableB _), (fun _ => Is.stableB _), (fun _ => Is.stableB _), (fun _ => Is.stableB _), (fun _ => Is.stableB _), (fun _ => Is.stableB _), (fun _ => Is.stableB _), (fun _ => Is.stableB _), (fun _ => Is.stableB _), (fun _ => Is.stableB _), (fun _ => Is.stableB _), (fun _ => Is.stableB _), (fun _ => Is.stableB _), (fun _ => OneC.stableB _ _ _), (fun h_ => absurd rfl h_), trivial⟩)
        · show PhHoldF _ _ _ _ _ _ _ _ _ _ _
          refine ⟨fun a_ wx hRL hD K hK => ?_, ?_⟩
          · have hF_ := True.intro
            have hRL : Grew W4 wx ∨ ∃ w1_, Grew W4 w1_ ∧ (fun w w' => w.grownBy w' v.ownBlock) w1_ wx := hRL.elim (fun h_ => .inl ((Grew.drew _).trans h_)) (fun h_ => .inr ⟨h_.choose, (Grew.drew _).trans h_.choose_spec.1, h_.choose_spec.2⟩)
            simp [Deps, Dep, at_, Is] at hD
            go_simp
            exact hK _ _ rfl rfl
          refine ⟨fun a_ wx hRL hD K hK => ?_, ?_⟩
          · have hF_ := True.intro
            have hRL : Grew W4 wx ∨ ∃ w1_, Grew W4 w1_ ∧ (fun w w' => w.grownBy w' v.ownBlock) w1_ wx := hRL.elim (fun h_ => .inl ((Grew.drew _).trans h_)) (fun h_ => .inr ⟨h_.choose, (Grew.drew _).trans h_.choose_spec.1, h_.choose_spec.2⟩)
            simp [Deps, Dep, at_, Is] at hD
            go_simp
            exact hK _ _ rfl rfl
          refine ⟨fun a_ wx hRL hD K hK => ?_, ?_⟩
          · have hF_ := True.intro
            have hRL : Grew W4 wx ∨ ∃ w1_, Grew W4 w1_ ∧ (fun w w' => w.grownBy w' v.ownBlock) w1_ wx := hRL.elim (fun h_ => .inl ((Grew.drew _).trans h_)) (fun h_ => .inr ⟨h_.choose, (Grew.drew _).trans h_.choose_spec.1, h_.choose_spec.2⟩)
            simp [Deps, Dep, at_, Is] at hD
            go_simp
            exact hK _ _ rfl rfl
          refine ⟨fun a_ wx hRL hD K hK => ?_, ?_⟩
          · have hF_ := True.intro
            have hRL : Grew W4 wx ∨ ∃ w1_, Grew W4 w1_ ∧ (fun w w' => w.grownBy w' v.ownBlock) w1_ wx := hRL.elim (fun h_ => .inl ((Grew.drew _).trans h_)) (fun h_ => .inr ⟨h_.choose, (Grew.drew _).trans h_.choose_spec.1, h_.choose_spec.2⟩)
            simp [Deps, Dep, at_, Is] at hD
            have e_ := CM.out wx hRL
            go_simp
            exact hK _ _ rfl rfl
          refine ⟨fun a_ wx hRL hD K hK => ?_, ?_⟩
          · have hF_ := True.intro
            have hRL : Grew W4 wx ∨ ∃ w1_, Grew W4 w1_ ∧ (fun w w' => w.grownBy w' v.ownBlock) w1_ wx := hRL.elim (fun h_ => .inl ((Grew.drew _).trans h_)) (fun h_ => .inr ⟨h_.choose, (Grew.drew _).trans h_.choose_spec.1, h_.choose_spec.2⟩)
            simp [Deps, Dep, at_, Is] at hD
            go_simp
            exact hK _ _ rfl rfl
          refine ⟨fun a_ wx hRL hD K hK => ?_, ?_⟩
          · have hF_ := True.intro
            have hRL : Grew W4 wx ∨ ∃ w1_, Grew W4 w1_ ∧ (fun w w' => w.grownBy w' v.ownBlock) w1_ wx := hRL.elim (fun h_ => .inl ((Grew.drew _).trans h_)) (fun h_ => .inr ⟨h_.choose, (Grew.drew _).trans h_.choose_spec.1, h_.choose_spec.2⟩)
            simp [Deps, Dep, at_, Is] at hD
            have e_ := CW.out wx hRL
            go_simp
            exact hK _ _ rfl rfl
          refine ⟨fun a_ wx hR hD K hK => ?_, ?_⟩
          · have hG : Grew W4 wx := (Grew.drew _).trans hR
            simp [Deps, Dep, at_, Is] at hD
            go_simp
            exact hK _ _ (Grew.refl _) rfl
          refine ⟨fun a_ wx hR hD K hK => ?_, ?_⟩
          · have hG : Grew W4 wx := (Grew.drew _).trans hR
            simp [Deps, Dep, at_, Is] at hD
            go_simp
            exact hK _ _ (Grew.refl _) rfl
          refine ⟨fun a_ wx hR hD K hK => ?_, ?_⟩
          · have hG : Grew W4 wx := (Grew.drew _).trans hR
            simp [Deps, Dep, at_, Is] at hD
            go_simp
            exact hK _ _ (Grew.refl _) rfl
          refine ⟨fun a_ wx hR hD K hK => ?_, ?_⟩
          · have hG : Grew W4 wx := (Grew.drew _).trans hR
            simp [Deps, Dep, at_, Is] at hD
            have e_ := CM.out wx (.inl hG)
            go_simp
            exact hK _ _ (Grew.refl _) rfl
          refine ⟨fun a_ wx hR hD K hK => ?_, ?_⟩
          · have hG : Grew W4 wx := (Grew.drew _).trans hR
            simp [Deps, Dep, at_, Is] at hD
            go_simp
            exact hK _ _ (Grew.refl _) rfl
          refine ⟨fun a_ wx hR hD K hK => ?_, ?_⟩
          · have hG : Grew W4 wx := (Grew.drew _).trans hR
            simp [Deps, Dep, at_, Is] at hD
            have e_ := CW.out wx (.inl hG)
            go_simp
            exact hK _ _ (Grew.refl _) rfl
          refine ⟨fun a_ wx hR hD K hK => ?_, ?_⟩
          · have hG : Grew W4 wx := (Grew.drew _).trans hR
            simp [Deps, Dep, at_, Is] at hD
            obtain ⟨hd0, hd1⟩ := hD
            have e_ := CK.out wx hG
            go_simp
            exact hK _ _ (Grew.refl _) rfl
          refine ⟨fun a_ wx hR hD K hK => ?_, ?_⟩
          · have hG : Grew W4 wx := (Grew.drew _).trans hR
            simp [Deps, Dep, at_, Is] at hD
            go_simp
            exact hK _ _ (Grew.refl _) rfl
          refine ⟨fun a_ wx hR hD K hK => ?_, ?_⟩
          · have hG : Grew W4 wx := (Grew.drew _).trans hR
            simp [Deps, Dep, at_, Is] at hD
            go_simp
            exact hK _ _ (Grew.alloc _ _) (OneC.new (fun k hk => Nat.lt_of_lt_of_le (hvlt k hk) hG.size))
          refine ⟨⟨rfl, fun a_ wx hR hD K hK => ?_⟩, ?_⟩
          · have hG : Grew W4 wx := (Grew.drew _).trans hR
            simp [Deps, Dep, at_, Is] at hD
            obtain ⟨hd0, hd1⟩ := hD
            obtain ⟨g1, h1, h2, h3⟩ := hd1
            obtain ⟨v1, wy, hrun, hown1, hgr1, hat1⟩ := app_cells (P := Try.prog) wx (w.heap.size + 1) 54 3 54 (.int .i64 0) 1 8 Try.underlying54 infoI rfl (by decide) (by decide) v zs.length (zs.map (Value.int .i64)) g1 [.int .i64 (pre.length : Int)] rfl (by intro v hv; simp at hv; rcases hv with rfl; rfl) (pw_own_below HOI.out.1 hG) h2 (by have := hG.size; omega) (by omega)
            exact wp_app (.tmp 42) (.tmp 44) 54 rfl (eval_tmp hd0) (eval_tmp h1) hrun (hK _ _ hgr1 ⟨hown1, hat1.imp id (fun h => ⟨_, h.choose_spec.1, Nat.le_trans hG.size h.choose_spec.2⟩)⟩)
          trivial
        · show EndHold _ _ _ _ _ _ _
          intro v44
          intro v45
          refine end_all (xs := [_, _, _, _, _, _, _, _, _, _, _, _, _, _]) ⟨rfl, rfl, rfl, rfl, rfl, rfl, rfl, rfl, rfl, rfl, rfl, rfl, rfl, rfl, trivial⟩ ?_
          rintro w5 hR1 ⟨⟨-, hOne⟩, hApp⟩
          refine ⟨?_⟩
          obtain ⟨wm_w5, hRm, hP_w5⟩ := hR1
          have hG_w5 : Grew W4 wm_w5 := (Grew.drew _).trans hRm
          clear hRm
          simp only [Act.put, List.setIfInBounds_toArray, List.set_cons_succ, List.set_cons_zero, dropN, putEach]
          obtain ⟨hown5, hat5⟩ := hApp
          have hgr5 : W4.grownBy w5 v.ownBlock := World.grownBy.trans ((Upd.of_grew (S := fun _ => False) hG_w5).grownBy_none v.ownBlock) hP_w5
          obtain ⟨w6, D6, hrun6, hI6, hu6⟩ := HI4.out.put (by omega) HWX.out HDA.out HOI.out hzl HBK.out hgr5 hown5 hat5
          have hu6' := HU4.out.trans hu6
          have HI6 := Lib.hid hI6
          have HU6 := Lib.hid hu6'
          have HR6 := Lib.hid hrun6
          clear hown5 hat5 hgr5 hI6 hu6 hu6' hrun6 hOne hP_w5 hG_w5 hvlt hzl hzl2 hB4
          refine wpList_mapUpdate_run rfl _ _ _ _ rfl rfl rfl rfl HR6.out ?_
          go_wp2_with fail
          go_roundw
          case rel => exact ⟨pre ++ [x], suf, _, D6, by simp, HP.out, HI6.out, HU6.out.grew (fun i hi h => by omega)⟩
          case measure => simp [intOf]; omega
end Go.Proofs.Ytkapekndfnefeaa.F

-- SgnF
namespace Go.Proofs.Ytkapekndfnefeaa.F
open Go Go.RowKit Go.Proofs.YtkapekndfnefeaaW.PrintWords Go.Proofs.YtkapekndfnefeaaW.PrintLast Go.Proofs.YtkapekndfnefeaaW.PrintMore Go.Proofs.YtkapekndfnefeaaM Go.Proofs.YtkapekndfnefeaaR
open Go.Maps (Keyed)
open Go.ChangeShapes
attribute [local go_sem] max2_int min2_int max_two min_two
set_option linter.unusedSimpArgs false
set_option linter.unusedVariables false
set_option maxRecDepth 100000
theorem toList_beq (a b : ByteArray) : (a.toList == b.toList) = decide (a = b) := by
  rw [Bool.eq_iff_iff]
  simp only [beq_iff_eq, decide_eq_true_eq]
  constructor
  · intro h
    rw [ByteArray.toList_eq, ByteArray.toList_eq] at h
    apply ByteArray.ext
    exact Array.toList_inj.1 h
  · rintro rfl; rfl
/-- the first of some places that has this strong sum -/
def findP (L : List S25) (s : ByteArray) : List Int → Int × Bool
  | [] => (0, false)
  | i :: zs => if (L.getD i.toNat z25).f1 = s then (i, true) else findP L s zs
theorem posns_mem {L : List S25} {n i : Int} (h : i ∈ posns L n) : ∃ j : Nat, i = (j : Int) ∧ j < L.length ∧ (L.getD j z25).f0 = n := by
  unfold posns at h
  obtain ⟨j, hj, rfl⟩ := List.mem_map.1 h
  rw [List.mem_filter, List.mem_range] at hj
  exact ⟨j, rfl, hj.1, of_decide_eq_true hj.2⟩
set_option maxHeartbeats 2000000 in
theorem ifind_c (w : World) (B p : Nat) (L : List S25) (lv : Value) (b base : Nat) (D : DataW Unit) (h : Idx B p L L lv b base D w) (s : S25) (hwf : (Lit.int .u32 s.f0).wf = true) (hn : L.length ≤ 100000) :
    Calls Try.prog 18 #[.pointer (some ⟨p, 0, none⟩), .agg #[.int .u32 s.f0, .string s.f1]] w (Tells w (Is (.tuple #[.int .i64 (findP L s.f1 (posns L s.f0)).1, .bool (findP L s.f1 (posns L s.f0)).2]))) := by
  obtain ⟨W, hW⟩ : ∃ W, W = w.alloc (.cells #[.int .u32 s.f0, .string s.f1] 25) := ⟨_, rfl⟩
  obtain ⟨g, hg⟩ : ∃ g, g = w.heap.size := ⟨_, rfl⟩
  have hbl : Blk W g 25 [.int .u32 s.f0, .string s.f1] := by rw [hW, hg]; exact Blk.new w _ _
  have hgw : Grew w W := by rw [hW]; exact Grew.alloc _ _
  have hI := h.grew hgw
  obtain ⟨v, zs, hlk, hdat, hoi, hzl, hback, hsh⟩ := groups_at hI.grp keyG Try.underlying51 zeroG (by unfold maxLen; omega) (Maps.keyOf_int_mk Try.underlying23 hwf)
  have hzs := hI.reads.at_ hdat hoi
  obtain ⟨Av, cv, rfl⟩ := own_slice hoi.1
  obtain ⟨Al, cl, rfl, hcl, hCl⟩ := sg_C hI.row rfl
  obtain ⟨nz, hnz⟩ : ∃ nz, nz = zs.length := ⟨_, rfl⟩
  obtain ⟨nl, hnl⟩ : ∃ nl, nl = L.length := ⟨_, rfl⟩
  rw [← hnz] at hoi hlk hzl
  rw [← hnl] at hCl hcl hI hzl hn
  have hmlt := groups_lt hI.grp
  have HMEM := Lib.hid (show ∀ i ∈ zs, ∃ j : Nat, i = (j : Int) ∧ j < nl from fun i hi => by
    rw [hzs] at hi
    obtain ⟨j, h1, h2, _⟩ := posns_mem hi
    exact ⟨j, h1, by omega⟩)
  have CL := Lib.hid (show ∀ wx, Grew W wx → wx.cell? ⟨p, 0, none⟩ = some (.slice Al nl cl) from fun wx h => by rw [(hI.cells.grew h).at_]; rfl)
  have CM := Lib.hid (show ∀ wx, Grew W wx → wx.cell? ⟨p, 1, none⟩ = some (.map (some b)) from fun wx h => by rw [(hI.cells.grew h).at_]; rfl)
  have CB := Lib.hid (show ∀ wx, Grew W wx → wx.cell? ⟨g, 0, none⟩ = some (.int .u32 s.f0) ∧ wx.cell? ⟨g, 1, none⟩ = some (.string s.f1) from fun wx h => ⟨by rw [(hbl.grew h).at_]; rfl, by rw [(hbl.grew h).at_]; rfl⟩)
  have CK := Lib.hid (show ∀ wx, Grew W wx → (Instr.lookup 51 (.map (some b)) (.int .u32 s.f0) false).run Try.prog wx = .ok (.slice Av nz cv) wx from fun wx h => hlk wx (h.block _ hmlt.1))
  have hoi1 := hoi.1
  rw [← hnz] at hoi1
  have HOI := Lib.hid hoi1
  have HCL := Lib.hid hCl
  have HGW := Lib.hid hgw
  have HW := Lib.hid hW
  have HG := Lib.hid hg
  have HNZ := Lib.hid hnz
  rw [← hzs]
  obtain ⟨R, hR⟩ : ∃ R, R = findP L s.f1 zs := ⟨_, rfl⟩
  rw [← hR]
  have HR := Lib.hid hR
  have hz2 : nz ≤ 100000 := by omega
  clear hoi1 hW hg hbl hgw hI hlk hdat hoi hzl hback hsh hzs hnz hnl hCl hcl hmlt hR h hwf
  go_enter Try.func18, Try.ntmps18
  go_wp2_with fail
  rw [← HW.out, ← HG.out]
  apply region_grew [Is _, Is _, Is _, Is _, Is _, Is _, Is _, Is _, Is _] [([(0, none)], none), ([(10, some 0)], none), ([(11, some 1)], none), ([(12, some 2)], none), ([(3, none)], none), ([(14, some 4)], none), ([(13, some 3), (15, some 5)], none), ([(16, some 6)], none), ([], none)] [(10, 0), (11, 1), (12, 2), (13, 3), (14, 4), (15, 5), (16, 6), (17, 7), (18, 8)] rfl (by kernel_rfl) (by kernel_rfl) (show Stable Grew _ from ⟨Is.stable _, Is.stable _, Is.stable _, Is.stable _, Is.stable _, Is.stable _, Is.stable _, Is.stable _, Is.stable _, trivial⟩)
  · show OpsHold _ _ _ _ _ _ _ _ _
    refine ⟨fun a_ wx hR hD K hK => ?_, ?_⟩
    · have hG : Grew W wx := (Grew.drew _).trans hR
      simp [Deps, Dep, at_, Is] at hD
      go_simp
      exact hK _ _ (Grew.refl _) rfl
    refine ⟨fun a_ wx hR hD K hK => ?_, ?_⟩
    · have hG : Grew W wx := (Grew.drew _).trans hR
      simp [Deps, Dep, at_, Is] at hD
      go_simp
      exact hK _ _ (Grew.refl _) rfl
    refine ⟨fun a_ wx hR hD K hK => ?_, ?_⟩
    · have hG : Grew W wx := (Grew.drew _).trans hR
      simp [Deps, Dep, at_, Is] at hD
      go_simp
      exact hK _ _ (Grew.refl _) rfl
    refine ⟨fun a_ wx hR hD K hK => ?_, ?_⟩
    · have hG : Grew W wx := (Grew.drew _).trans hR
      simp [Deps, Dep, at_, Is] at hD
      have e_ := CM.out wx hG
      go_simp
      exact hK _ _ (Grew.refl _) rfl
    refine ⟨fun a_ wx hR hD K hK => ?_, ?_⟩
    · have hG : Grew W wx := (Grew.drew _).trans hR
      simp [Deps, Dep, at_, Is] at hD
      go_simp
      exact hK _ _ (Grew.refl _) rfl
    refine ⟨fun a_ wx hR hD K hK => ?_, ?_⟩
    · have hG : Grew W wx := (Grew.drew _).trans hR
      simp [Deps, Dep, at_, Is] at hD
      have e_ := (CB.out wx hG).1
      go_simp
      exact hK _ _ (Grew.refl _) rfl
    refine ⟨fun a_ wx hR hD K hK => ?_, ?_⟩
    · have hG : Grew W wx := (Grew.drew _).trans hR
      simp [Deps, Dep, at_, Is] at hD
      obtain ⟨hd0, hd1⟩ := hD
      have e_ := CK.out wx hG
      go_simp
      exact hK _ _ (Grew.refl _) rfl
    refine ⟨fun a_ wx hR hD K hK => ?_, ?_⟩
    · have hG : Grew W wx := (Grew.drew _).trans hR
      simp [Deps, Dep, at_, Is] at hD
      go_simp
      exact hK _ _ (Grew.refl _) rfl
    refine ⟨fun a_ wx hR hD K hK => ?_, ?_⟩
    · have hG : Grew W wx := (Grew.drew _).trans hR
      go_simp
      exact hK _ _ (Grew.refl _) rfl
    trivial
  · show EndHold _ _ _ _ _ _ _
    refine end_all (xs := [_, _, _, _, _, _, _, _, _]) ⟨rfl, rfl, rfl, rfl, rfl, rfl, rfl, rfl, rfl, trivial⟩ ?_
    rintro w2 hR1 -
    refine ⟨?_⟩
    have hG_w2 : Grew W w2 := (Grew.drew _).trans hR1
    clear hR1
    simp only [Act.put, List.setIfInBounds_toArray, List.set_cons_succ, List.set_cons_zero, dropN, putEach]
    go_wp2_with fail
    go_loopw [18] (fun iv wr => ∃ k : Nat, k ≤ nz ∧ iv = .int .i64 (k : Int) ∧ R = findP L s.f1 (zs.drop k) ∧ Grew W wr) (fun iv _ => nz - (intOf iv).toNat)
    case atStart => exact ⟨0, Nat.zero_le _, rfl, by rw [List.drop_zero]; exact HR.out, hG_w2⟩
    case round =>
      obtain ⟨k, hk, rfl, hre, hgr⟩ := hrel
      by_cases hlt : k < nz
      · have d1 : decide ((k : Int) < (nz : Int)) = true := decide_eq_true (by omega)
        have d2 : decide (k < nz) = true := decide_eq_true hlt
        have hkz : k < zs.length := by rw [← HNZ.out]; exact hlt
        obtain ⟨j, hj, hjl⟩ := HMEM.out zs[k] (List.getElem_mem _)
        obtain ⟨gv, cap, hve, -, -, -⟩ := own_head (k := .i64) (l := zs) HOI.out (by omega)
        obtain ⟨rfl, -, -⟩ := (Value.slice.injEq _ _ _ _ _ _).mp hve
        have c1 := (own_atN (k := .i64) (pw_own_below HOI.out hgr) k hlt).1
        rw [show zs.getD k 0 = (j : Int) from by simp [List.getD, hkz, hj]] at c1
        rw [List.drop_eq_getElem_cons hkz] at hre
        simp only [findP] at hre
        rw [hj, Int.toNat_natCast] at hre
        have ij : (j : Int) < (nl : Int) := by omega
        obtain ⟨ad, hAl, -, k1⟩ := at_T25 HCL.out (j : Int) (by omega) ij
        subst hAl
        rw [Int.toNat_natCast, show (rd_T25 L (j : Int)) = L.getD j z25 from by unfold rd_T25; rw [Int.toNat_natCast]] at k1
        obtain ⟨y, hy⟩ : ∃ y, y = (L.getD j z25).f1 := ⟨_, rfl⟩
        rw [← hy] at k1 hre
        have K1 := Lib.hid (fun wx (h : Grew wr wx) => pw_cell_below (hgr.trans h) k1)
        have CL2 := Lib.hid (fun wx (h : Grew wr wx) => CL.out wx (hgr.trans h))
        have CB2 := Lib.hid (fun wx (h : Grew wr wx) => (CB.out wx (hgr.trans h)).2)
        have HRE := Lib.hid hre
        have HGR := Lib.hid hgr
        have jd : decide (j < nl) = true := decide_eq_true hjl
        have jd2 : decide ((j : Int) < (nl : Int)) = true := decide_eq_true ij
        clear hkz hj hve hy hre k1 hgr
        by_cases hys : y = s.f1
        · have e1 : (y.toList == s.f1.toList) = true := by rw [toList_beq]; exact decide_eq_true hys
          have e2 : decide (y = s.f1) = true := decide_eq_true hys
          have HYS := Lib.hid hys
          clear hys
          go_wp2_with fail
          apply region_grew [Is _, Is _, Is _, Is _, Is _, Is _, Is _, Is _, Is _, Is _] [([(0, none)], none), ([(22, some 0)], none), ([(23, some 1)], none), ([(24, some 2)], none), ([(7, none)], none), ([(25, some 3), (26, some 4)], none), ([(27, some 5)], none), ([(28, some 6)], none), ([(3, none)], none), ([(30, some 8)], none)] [(22, 0), (23, 1), (24, 2), (25, 3), (26, 4), (27, 5), (28, 6), (29, 7), (30, 8), (31, 9)] rfl (by kernel_rfl) (by kernel_rfl) (show Stable Grew _ from ⟨Is.stable _, Is.stable _, Is.stable _, Is.stable _, Is.stable _, Is.stable _, Is.stable _, Is.stable _, Is.stable _, Is.stable _, trivial⟩)
          · show OpsHold _ _ _ _ _ _ _ _ _
            refine ⟨fun a_ wx hR hD K hK => ?_, ?_⟩
            · have hG : Grew wr wx := (Grew.drew _).trans hR
              simp [Deps, Dep, at_, Is] at hD
              go_simp
              exact hK _ _ (Grew.refl _) rfl
            refine ⟨fun a_ wx hR hD K hK => ?_, ?_⟩
            · have hG : Grew wr wx := (Grew.drew _).trans hR
              simp [Deps, Dep, at_, Is] at hD
              go_simp
              exact hK _ _ (Grew.refl _) rfl
            refine ⟨fun a_ wx hR hD K hK => ?_, ?_⟩
            · have hG : Grew wr wx := (Grew.drew _).trans hR
              simp [Deps, Dep, at_, Is] at hD
              go_simp
              exact hK _ _ (Grew.refl _) rfl
            refine ⟨fun a_ wx hR hD K hK => ?_, ?_⟩
            · have hG : Grew wr wx := (Grew.drew _).trans hR
              simp [Deps, Dep, at_, Is] at hD
              have e_ := CL2.out wx hG
              go_simp
              exact hK _ _ (Grew.refl _) rfl
            refine ⟨fun a_ wx hR hD K hK => ?_, ?_⟩
            · have hG : Grew wr wx := (Grew.drew _).trans hR
              simp [Deps, Dep, at_, Is] at hD
              go_simp
              exact hK _ _ (Grew.refl _) rfl
            refine ⟨fun a_ wx hR hD K hK => ?_, ?_⟩
            · have hG : Grew wr wx := (Grew.drew _).trans hR
              simp [Deps, Dep, at_, Is] at hD
              obtain ⟨hd0, hd1⟩ := hD
              go_simp
              exact hK _ _ (Grew.refl _) rfl
            refine ⟨fun a_ wx hR hD K hK => ?_, ?_⟩
            · have hG : Grew wr wx := (Grew.drew _).trans hR
              simp [Deps, Dep, at_, Is] at hD
              go_simp
              exact hK _ _ (Grew.refl _) rfl
            refine ⟨fun a_ wx hR hD K hK => ?_, ?_⟩
            · have hG : Grew wr wx := (Grew.drew _).trans hR
              simp [Deps, Dep, at_, Is] at hD
              have e_ := K1.out wx hG
              go_simp
              exact hK _ _ (Grew.refl _) rfl
            refine ⟨fun a_ wx hR hD K hK => ?_, ?_⟩
            · have hG : Grew wr wx := (Grew.drew _).trans hR
              simp [Deps, Dep, at_, Is] at hD
              go_simp
              exact hK _ _ (Grew.refl _) rfl
            refine ⟨fun a_ wx hR hD K hK => ?_, ?_⟩
            · have hG : Grew wr wx := (Grew.drew _).trans hR
              simp [Deps, Dep, at_, Is] at hD
              have e_ := CB2.out wx hG
              go_simp
              exact hK _ _ (Grew.refl _) rfl
            trivial
          · show EndHold _ _ _ _ _ _ _
            refine end_all (xs := [_, _, _, _, _, _, _, _, _, _]) ⟨rfl, rfl, rfl, rfl, rfl, rfl, rfl, rfl, rfl, rfl, trivial⟩ ?_
            rintro w3 hR1 -
            refine ⟨?_⟩
            have hG_w3 : Grew wr w3 := (Grew.drew _).trans hR1
            clear hR1
            simp only [Act.put, List.setIfInBounds_toArray, List.set_cons_succ, List.set_cons_zero, dropN, putEach]
            go_wp2_with fail
            go_ret2
            have := HRE.out
            rw [if_pos HYS.out] at this
            rw [this]
            exact ⟨_, rfl, rfl, (HGW.out.trans HGR.out).trans hG_w3⟩
        · have e1 : (y.toList == s.f1.toList) = false := by rw [toList_beq]; exact decide_eq_false hys
          have e2 : decide (y = s.f1) = false := decide_eq_false hys
          have HYS := Lib.hid hys
          clear hys
          go_wp2_with fail
          apply region_grew [Is _, Is _, Is _, Is _, Is _, Is _, Is _, Is _, Is _, Is _] [([(0, none)], none), ([(22, some 0)], none), ([(23, some 1)], none), ([(24, some 2)], none), ([(7, none)], none), ([(25, some 3), (26, some 4)], none), ([(27, some 5)], none), ([(28, some 6)], none), ([(3, none)], none), ([(30, some 8)], none)] [(22, 0), (23, 1), (24, 2), (25, 3), (26, 4), (27, 5), (28, 6), (29, 7), (30, 8), (31, 9)] rfl (by kernel_rfl) (by kernel_rfl) (show Stable Grew _ from ⟨Is.stable _, Is.stable _, Is.stable _, Is.stable _, Is.stable _, Is.stable _, Is.stable _, Is.stable _, Is.stable _, Is.stable _, trivial⟩)
          · show OpsHold _ _ _ _ _ _ _ _ _
            refine ⟨fun a_ wx hR hD K hK => ?_, ?_⟩
            · have hG : Grew wr wx := (Grew.drew _).trans hR
              simp [Deps, Dep, at_, Is] at hD
              go_simp
              exact hK _ _ (Grew.refl _) rfl
            refine ⟨fun a_ wx hR hD K hK => ?_, ?_⟩
            · have hG : Grew wr wx := (Grew.drew _).trans hR
              simp [Deps, Dep, at_, Is] at hD
              go_simp
              exact hK _ _ (Grew.refl _) rfl
            refine ⟨fun a_ wx hR hD K hK => ?_, ?_⟩
            · have hG : Grew wr wx := (Grew.drew _).trans hR
              simp [Deps, Dep, at_, Is] at hD
              go_simp
              exact hK _ _ (Grew.refl _) rfl
            refine ⟨fun a_ wx hR hD K hK => ?_, ?_⟩
            · have hG : Grew wr wx := (Grew.drew _).trans hR
              simp [Deps, Dep, at_, Is] at hD
              have e_ := CL2.out wx hG
              go_simp
              exact hK _ _ (Grew.refl _) rfl
            refine ⟨fun a_ wx hR hD K hK => ?_, ?_⟩
            · have hG : Grew wr wx := (Grew.drew _).trans hR
              simp [Deps, Dep, at_, Is] at hD
              go_simp
              exact hK _ _ (Grew.refl _) rfl
            refine ⟨fun a_ wx hR hD K hK => ?_, ?_⟩
            · have hG : Grew wr wx := (Grew.drew _).trans hR
              simp [Deps, Dep, at_, Is] at hD
              obtain ⟨hd0, hd1⟩ := hD
              go_simp
              exact hK _ _ (Grew.refl _) rfl
            refine ⟨fun a_ wx hR hD K hK => ?_, ?_⟩
            · have hG : Grew wr wx := (Grew.drew _).trans hR
              simp [Deps, Dep, at_, Is] at hD
              go_simp
              exact hK _ _ (Grew.refl _) rfl
            refine ⟨fun a_ wx hR hD K hK => ?_, ?_⟩
            · have hG : Grew wr wx := (Grew.drew _).trans hR
              simp [Deps, Dep, at_, Is] at hD
              have e_ := K1.out wx hG
              go_simp
              exact hK _ _ (Grew.refl _) rfl
            refine ⟨fun a_ wx hR hD K hK => ?_, ?_⟩
            · have hG : Grew wr wx := (Grew.drew _).trans hR
              simp [Deps, Dep, at_, Is] at hD
              go_simp
              exact hK _ _ (Grew.refl _) rfl
            refine ⟨fun a_ wx hR hD K hK => ?_, ?_⟩
            · have hG : Grew wr wx := (Grew.drew _).trans hR
              simp [Deps, Dep, at_, Is] at hD
              have e_ := CB2.out wx hG
              go_simp
              exact hK _ _ (Grew.refl _) rfl
            trivial
          · show EndHold _ _ _ _ _ _ _
            refine end_all (xs := [_, _, _, _, _, _, _, _, _, _]) ⟨rfl, rfl, rfl, rfl, rfl, rfl, rfl, rfl, rfl, rfl, trivial⟩ ?_
            rintro w3 hR1 -
            refine ⟨?_⟩
            have hG_w3 : Grew wr w3 := (Grew.drew _).trans hR1
            clear hR1
            simp only [Act.put, List.setIfInBounds_toArray, List.set_cons_succ, List.set_cons_zero, dropN, putEach]
            have hw : IntKind.i64.wrap ((k : Int) + 1) = (k : Int) + 1 := by rw [IntWalk.i64_in _ (by omega)]
            go_wp2_with fail
            go_roundw
            case rel =>
              refine ⟨k + 1, hlt, by go_num, ?_, HGR.out.trans hG_w3⟩
              have := HRE.out
              rw [if_neg HYS.out] at this
              exact this
            case measure => simp [intOf]; omega
      · obtain rfl : k = nz := by omega
        have d1 : decide ((k : Int) < (k : Int)) = false := decide_eq_false (by omega)
        have d2 : decide (k < k) = false := decide_eq_false (by omega)
        rw [HNZ.out, List.drop_length] at hre
        simp only [findP] at hre
        subst hre
        go_wp2_with fail
        go_ret2
        exact ⟨_, rfl, rfl, HGW.out.trans hgr⟩
set_option maxHeartbeats 2000000 in
theorem iweak_c (w : World) (B p : Nat) (L : List S25) (lv : Value) (b base : Nat) (D : DataW Unit) (h : Idx B p L L lv b base D w) (n : Int) (hwf : (Lit.int .u32 n).wf = true) (hn : L.length ≤ 100000) :
    Calls Try.prog 20 #[.pointer (some ⟨p, 0, none⟩), .int .u32 n] w (Tells w (Is (.bool (decide (0 < (posns L n).length))))) := by
  obtain ⟨v, zs, hlk, hdat, hoi, hzl, hback, hsh⟩ := groups_at h.grp keyG Try.underlying51 zeroG (by unfold maxLen; omega) (Maps.keyOf_int_mk Try.underlying23 hwf)
  have hzs := h.reads.at_ hdat hoi
  obtain ⟨Av, cv, rfl⟩ := own_slice hoi.1
  rw [← hzs]
  have hl := hlk w rfl
  have c1 : w.cell? ⟨p, 1, none⟩ = some (.map (some b)) := by rw [h.cells.at_]; rfl
  obtain ⟨nz, hnz⟩ : ∃ nz, nz = zs.length := ⟨_, rfl⟩
  rw [← hnz] at hl ⊢
  clear hlk hdat hoi hzl hback hsh hzs hnz h hwf
  by_cases hp : 0 < nz
  · have d1 : decide (0 < nz) = true := decide_eq_true hp
    have d2 : decide (0 < (nz : Int)) = true := decide_eq_true (by omega)
    rw [d1]
    go_enter Try.func20, Try.ntmps20
    go_wp2_with fail
    go_ret
    exact ⟨_, rfl, rfl, Grew.refl _⟩
  · have d1 : decide (0 < nz) = false := decide_eq_false hp
    have d2 : decide (0 < (nz : Int)) = false := decide_eq_false (by omega)
    rw [d1]
    go_enter Try.func20, Try.ntmps20
    go_wp2_with fail
    go_ret
    exact ⟨_, rfl, rfl, Grew.refl _⟩
theorem ilen_c (w : World) (B p : Nat) (L G : List S25) (lv : Value) (b base : Nat) (D : DataW Unit) (h : Idx B p L G lv b base D w) :
    Calls Try.prog 21 #[.pointer (some ⟨p, 0, none⟩)] w (Tells w (Is (.int .i64 (L.length : Int)))) := by
  obtain ⟨Av, cv, rfl⟩ := own_slice h.row
  have c1 : w.cell? ⟨p, 0, none⟩ = some (.slice Av L.length cv) := by rw [h.cells.at_]; rfl
  obtain ⟨n, hn⟩ : ∃ n, n = L.length := ⟨_, rfl⟩
  rw [← hn] at c1 ⊢
  clear h hn
  go_enter Try.func21, Try.ntmps21
  go_wp2_with fail
  go_ret
  exact ⟨_, rfl, rfl, Grew.refl _⟩
theorem nfind_c (w : World) (a b : Value) : Calls Try.prog 18 #[.pointer none, .agg #[a, b]] w (Tells w (Is (.tuple #[.int .i64 0, .bool false]))) := by
  go_enter Try.func18, Try.ntmps18
  go_wp2_with fail
  go_ret2
  exact ⟨_, rfl, rfl, Grew.alloc _ _⟩
theorem nweak_c (w : World) (n : Int) : Calls Try.prog 20 #[.pointer none, .int .u32 n] w (Tells w (Is (.bool false))) := by
  go_enter Try.func20, Try.ntmps20
  go_wp2_with fail
  go_ret
  exact ⟨_, rfl, rfl, Grew.refl _⟩
theorem nlen_c (w : World) : Calls Try.prog 21 #[.pointer none] w (Tells w (Is (.int .i64 0))) := by
  go_enter Try.func21, Try.ntmps21
  go_wp2_with fail
  go_ret
  exact ⟨_, rfl, rfl, Grew.refl _⟩
end Go.Proofs.Ytkapekndfnefeaa.F

-- F19
namespace Go.Proofs.Ytkapekndfnefeaa.F
open Go.RowKit Go.Proofs.YtkapekndfnefeaaW.PrintWords Go.Proofs.YtkapekndfnefeaaW.PrintLast Go.Proofs.YtkapekndfnefeaaW.PrintMore
attribute [local go_sem] max2_int min2_int max_two min_two max_three min_three max_four min_four   -- for this text's walks alone
set_option linter.unusedVariables false
set_option linter.unusedSimpArgs false

attribute [local go_sem high] eqA25
/-! ### strongroomref10_Find: function 19 -/
mutual
def strongroomref10_Find.l0 : Nat → List (S25) → Int → Int → ByteArray → Option (Int)
  | 0, _, _, _, _ => none
  | k + 1, x0, x5, x164000, x164001 => if x5 < (x0.length : Int) then (strongroomref10_Find.j1 k x0 x5 (decide (x5 < 1024)) x164000 x164001) else (strongroomref10_Find.j1 k x0 x5 false x164000 x164001)
def strongroomref10_Find.j1 : Nat → List (S25) → Int → Bool → Int → ByteArray → Option (Int)
  | 0, _, _, _, _, _ => none
  | k + 1, x0, x5, x13, x164000, x164001 => if x13 = true then (if 0 ≤ x5 then (if x5 < (x0.length : Int) then (if (((rd_T25 x0 x5).f0) == x164000 && ((((rd_T25 x0 x5).f1).toList) == x164001.toList)) = true then (some x5) else (strongroomref10_Find.l0 k x0 (wrap64 (x5 + 1)) x164000 x164001)) else (none)) else (none)) else (some (-1))
end
def strongroomref10_Find.f (k : Nat) (l0 : List (S25)) (a1_0 : Int) (a1_1 : ByteArray) : Option (Int) := strongroomref10_Find.l0 k l0 0 a1_0 a1_1
theorem strongroomref10_Find.mono_l : ∀ k, (∀ y0 y1 y2 y3, LeO (strongroomref10_Find.l0 k y0 y1 y2 y3) (strongroomref10_Find.l0 (k + 1) y0 y1 y2 y3)) ∧ (∀ y0 y1 y2 y3 y4, LeO (strongroomref10_Find.j1 k y0 y1 y2 y3 y4) (strongroomref10_Find.j1 (k + 1) y0 y1 y2 y3 y4))
  | 0 => ⟨fun _ _ _ _ r h => by simp [strongroomref10_Find.l0] at h, fun _ _ _ _ _ r h => by simp [strongroomref10_Find.j1] at h⟩
  | k + 1 => by
    obtain ⟨ih0, ih1⟩ := strongroomref10_Find.mono_l k
    refine ⟨?_, ?_⟩
    · intro y0 y1 y2 y3
      unfold strongroomref10_Find.l0
      repeat' first
      | (with_reducible exact ih0 _ _ _ _)
      | (with_reducible exact ih1 _ _ _ _ _)
      | (with_reducible exact LeO.refl _)
      | (with_reducible exact LeO.none _)
      | (with_reducible refine LeO.ite ?_ ?_)
      | (with_reducible refine LeO.bind ?_ (fun _ => ?_))
      | exact ih0 _ _ _ _
      | exact ih1 _ _ _ _ _
      | exact LeO.none _
      | refine LeO.ite ?_ ?_
      | refine LeO.bind ?_ (fun _ => ?_)
    · intro y0 y1 y2 y3 y4
      unfold strongroomref10_Find.j1
      repeat' first
      | (with_reducible exact ih0 _ _ _ _)
      | (with_reducible exact ih1 _ _ _ _ _)
      | (with_reducible exact LeO.refl _)
      | (with_reducible exact LeO.none _)
      | (with_reducible refine LeO.ite ?_ ?_)
      | (with_reducible refine LeO.bind ?_ (fun _ => ?_))
      | exact ih0 _ _ _ _
      | exact ih1 _ _ _ _ _
      | exact LeO.none _
      | refine LeO.ite ?_ ?_
      | refine LeO.bind ?_ (fun _ => ?_)
theorem strongroomref10_Find.mono : ∀ a0 a1 a2 k, LeO (strongroomref10_Find.f k a0 a1 a2) (strongroomref10_Find.f (k + 1) a0 a1 a2) := by
  intro a0 a1 a2 k
  obtain ⟨ih0, ih1⟩ := strongroomref10_Find.mono_l k
  unfold strongroomref10_Find.f
  repeat' first
      | (with_reducible exact ih0 _ _ _ _)
      | (with_reducible exact ih1 _ _ _ _ _)
      | (with_reducible exact LeO.refl _)
      | (with_reducible exact LeO.none _)
      | (with_reducible refine LeO.ite ?_ ?_)
      | (with_reducible refine LeO.bind ?_ (fun _ => ?_))
      | exact ih0 _ _ _ _
      | exact ih1 _ _ _ _ _
      | exact LeO.none _
      | refine LeO.ite ?_ ?_
      | refine LeO.bind ?_ (fun _ => ?_)
set_option maxHeartbeats 8000000 in
set_option maxRecDepth 100000 in
theorem strongroomref10_Find.calls (k : Nat) (A0 : Option Addr) (c0 : Nat) (l0 : List (S25)) (a1_0 : Int) (a1_1 : ByteArray) (r : Int) (w : World) (hr0 : Kd.C k25 w A0 l0.length l0) (hc0 : l0.length ≤ c0) (h : strongroomref10_Find.f k l0 a1_0 a1_1 = some r) :
    Calls Try.prog 19 #[.slice A0 l0.length c0, .agg #[.int .u32 a1_0, .string a1_1]] w fun e w' => e = .returned (.int .i64 r) ∧ Below w.heap.size w w' := by
  have hu25 := Try.underlying25
  have HR0 := Aside0.mk hr0
  have HC0 := Aside0.mk hc0
  clear hr0 hc0
  have HB := Aside0.mk (Below.refl w.heap.size w)
  have H : (strongroomref10_Find.l0 k l0 0 a1_0 a1_1) = some r := h
  clear h
  have H' := Aside0.mk H
  clear H
  go_enter Try.func19, Try.ntmps19
  go_wp2_with (first | ((with_reducible refine gate_dst (N := 3) rfl ?_); refine box_event ?hg (N := 3) ?hd (cs := #[.int .u32 a1_0, .string a1_1]) (t := 25) ?hr ?_; (case hd => rfl); (case hg => rfl); (case hr => first | (go_simp; done) | (go_simp; rfl)); intro gb163 hg w3 hbox hb; have n0_ := Aside0.mk (below_step (by repeat (first | (with_reducible first | exact HB.out | apply below_alloc | apply pw_below_drewN | apply below_drew1) | exact HB.out)) hb); have n1_ := Aside0.mk (hbox); have n2_ := Aside0.mk ((by rw [hg]; exact (below_size (by repeat (first | (with_reducible first | exact HB.out | apply below_alloc | apply pw_below_drewN | apply below_drew1) | exact HB.out))) : w.heap.size ≤ gb163)); have n3_ := Aside0.mk ((by rw [hg]; exact (below_size (by repeat (first | (with_reducible first | exact HB.out | apply below_alloc | apply pw_below_drewN | apply below_drew1) | exact HB.out))) : w.heap.size ≤ gb163)); clear HB; have HB := n0_; have BK163 := n1_; have GW163 := n2_; have GE163 := n3_; clear n0_ n1_ n2_ n3_; clear hb hbox hg))
  repeat (go_quiet (first | ((with_reducible refine gate_dst (N := 3) rfl ?_); refine box_event ?hg (N := 3) ?hd (cs := #[.int .u32 a1_0, .string a1_1]) (t := 25) ?hr ?_; (case hd => rfl); (case hg => rfl); (case hr => first | (go_simp; done) | (go_simp; rfl)); intro gb163 hg w3 hbox hb; have n0_ := Aside0.mk (below_step (by repeat (first | (with_reducible first | exact HB.out | apply below_alloc | apply pw_below_drewN | apply below_drew1) | exact HB.out)) hb); have n1_ := Aside0.mk (hbox); have n2_ := Aside0.mk ((by rw [hg]; exact (below_size (by repeat (first | (with_reducible first | exact HB.out | apply below_alloc | apply pw_below_drewN | apply below_drew1) | exact HB.out))) : w.heap.size ≤ gb163)); have n3_ := Aside0.mk ((by rw [hg]; exact (below_size (by repeat (first | (with_reducible first | exact HB.out | apply below_alloc | apply pw_below_drewN | apply below_drew1) | exact HB.out))) : w.heap.size ≤ gb163)); clear HB; have HB := n0_; have BK163 := n1_; have GW163 := n2_; have GE163 := n3_; clear n0_ n1_ n2_ n3_; clear hb hbox hg)); try go_wp2_with (first | ((with_reducible refine gate_dst (N := 3) rfl ?_); refine box_event ?hg (N := 3) ?hd (cs := #[.int .u32 a1_0, .string a1_1]) (t := 25) ?hr ?_; (case hd => rfl); (case hg => rfl); (case hr => first | (go_simp; done) | (go_simp; rfl)); intro gb163 hg w3 hbox hb; have n0_ := Aside0.mk (below_step (by repeat (first | (with_reducible first | exact HB.out | apply below_alloc | apply pw_below_drewN | apply below_drew1) | exact HB.out)) hb); have n1_ := Aside0.mk (hbox); have n2_ := Aside0.mk ((by rw [hg]; exact (below_size (by repeat (first | (with_reducible first | exact HB.out | apply below_alloc | apply pw_below_drewN | apply below_drew1) | exact HB.out))) : w.heap.size ≤ gb163)); have n3_ := Aside0.mk ((by rw [hg]; exact (below_size (by repeat (first | (with_reducible first | exact HB.out | apply below_alloc | apply pw_below_drewN | apply below_drew1) | exact HB.out))) : w.heap.size ≤ gb163)); clear HB; have HB := n0_; have BK163 := n1_; have GW163 := n2_; have GE163 := n3_; clear n0_ n1_ n2_ n3_; clear hb hbox hg)))
  go_loopg [5] k (fun kq v5 w' => ∃ (x5_1 : Int), v5 = .int .i64 x5_1 ∧ Aside0 (strongroomref10_Find.l0 kq l0 x5_1 a1_0 a1_1 = some r) ∧ Aside0 (kq ≤ k) ∧ Aside0 (w'.heap[gb163]? = some (.cells #[.int .u32 a1_0, .string a1_1] 25 (0, 0))) ∧ Aside0 (Below w.heap.size w w'))
  case atStart => exact ⟨(0), (by first | rfl | (simp; done) | (simp [*]; done)), H', ⟨Nat.le_refl _⟩, ⟨by (with_reducible repeat (first | refine blk_drewN ?_ _ | refine blk_drew ?_ | refine blk_alloc ?_ _)); exact BK163.out⟩, ⟨by repeat (first | (with_reducible first | exact HB.out | apply below_alloc | apply pw_below_drewN | apply below_drew1 | refine below_set ?_ GE163.out) | exact HB.out)⟩⟩
  case round =>
    clear H'
    try clear c1
    try clear p2
    obtain ⟨x5_1, rfl, HA, HK1, BK163, HB⟩ := hrel
    cases gk with
    | zero => exact absurd HA.out (by simp [strongroomref10_Find.l0])
    | succ k1 =>
      have H := HA.out
      clear HA
      simp only [strongroomref10_Find.l0] at H
      have HC4 := Aside0.mk H
      clear H
      go_upto_region 2 with (fail)
      repeat (go_quiet (fail); go_upto_region 2 with (fail))
      go_cut [13] (fun v13 wc => ∃ (kq : Nat) (x13_3 : Bool), v13 = .bool x13_3 ∧ Aside0 (strongroomref10_Find.j1 kq l0 x5_1 x13_3 a1_0 a1_1 = some r) ∧ Aside0 (kq ≤ k1) ∧ Aside0 (wc.heap[gb163]? = some (.cells #[.int .u32 a1_0, .string a1_1] 25 (0, 0))) ∧ Aside0 (Below w.heap.size w wc))
      case first =>
        have H := HC4.out
        clear HC4
        by_cases c5 : x5_1 < (l0.length : Int)
        · rw [if_pos c5] at H
          have c5b0 : decide (x5_1 < (l0.length : Int)) = true := decide_eq_true c5
          clear c5
          (first | rw [c5b0] | (simp only [i64_w, i32_w]; rw [c5b0]) | skip)
          have H' := Aside0.mk H
          clear H
          go_wp2
          repeat (go_quiet (fail); try go_wp2)
          go_meet
          case rel => exact ⟨_, (decide (x5_1 < 1024)), (by first | rfl | (simp; done) | (simp [*]; done)), H', ⟨by have := HK1.out; first | omega | exact Nat.le_refl _⟩, ⟨by (with_reducible repeat (first | refine blk_drewN ?_ _ | refine blk_drew ?_ | refine blk_alloc ?_ _)); exact BK163.out⟩, ⟨by repeat (first | (with_reducible first | exact HB.out | apply below_alloc | apply pw_below_drewN | apply below_drew1 | refine below_set ?_ GE163.out) | exact HB.out)⟩⟩
        · rw [if_neg c5] at H
          have c5b0 : decide (x5_1 < (l0.length : Int)) = false := decide_eq_false c5
          clear c5
          (first | rw [c5b0] | (simp only [i64_w, i32_w]; rw [c5b0]) | skip)
          have H' := Aside0.mk H
          clear H
          go_wp2
          repeat (go_quiet (fail); try go_wp2)
          go_meet
          case rel => exact ⟨_, (false), (by first | rfl | (simp; done) | (simp [*]; done)), H', ⟨by have := HK1.out; first | omega | exact Nat.le_refl _⟩, ⟨by (with_reducible repeat (first | refine blk_drewN ?_ _ | refine blk_drew ?_ | refine blk_alloc ?_ _)); exact BK163.out⟩, ⟨by repeat (first | (with_reducible first | exact HB.out | apply below_alloc | apply pw_below_drewN | apply below_drew1 | refine below_set ?_ GE163.out) | exact HB.out)⟩⟩
      case rest =>
        clear HC4
        try clear c1
        try clear p2
        try clear c5
        try clear c5b0
        try clear p2
        obtain ⟨kq, x13_3, rfl, HA, HJ3, BK163, HB⟩ := hcut
        cases kq with
        | zero => exact absurd HA.out (by simp [strongroomref10_Find.j1])
        | succ kj3 =>
          have H := HA.out
          clear HA
          simp only [strongroomref10_Find.j1] at H
          by_cases c6 : x13_3 = true
          · subst c6
            have H1 : (if 0 ≤ x5_1 then (if x5_1 < (l0.length : Int) then (if (((rd_T25 l0 x5_1).f0) == a1_0 && ((((rd_T25 l0 x5_1).f1).toList) == a1_1.toList)) = true then (some x5_1) else (strongroomref10_Find.l0 kj3 l0 (wrap64 (x5_1 + 1)) a1_0 a1_1)) else (none)) else (none)) = some r := by rw [if_pos rfl] at H; exact H
            clear H
            have H := H1
            clear H1
            by_cases c7 : 0 ≤ x5_1
            · rw [if_pos c7] at H
              have c7b0 : decide (0 ≤ x5_1) = true := decide_eq_true c7
              clear c7
              by_cases c8 : x5_1 < (l0.length : Int)
              · rw [if_pos c8] at H
                have c8b0 : decide (x5_1 < (l0.length : Int)) = true := decide_eq_true c8
                clear c8
                by_cases c9 : (((rd_T25 l0 x5_1).f0) == a1_0 && ((((rd_T25 l0 x5_1).f1).toList) == a1_1.toList)) = true
                · rw [if_pos c9] at H
                  have c9b0 : (((rd_T25 l0 x5_1).f0) == a1_0 && ((((rd_T25 l0 x5_1).f1).toList) == a1_1.toList)) = true := c9
                  (try (have c9b1 : decide (((rd_T25 l0 x5_1).f0) = a1_0 && ((((rd_T25 l0 x5_1).f1).toList) == a1_1.toList)) = true := by simpa using c9))
                  (try (have c9b2 : (((rd_T25 l0 x5_1).f0) == a1_0 && ((((rd_T25 l0 x5_1).f1).toList) == a1_1.toList)) = true := by simpa using c9))
                  clear c9
                  obtain rfl := Option.some.inj H
                  have p164 : 0 ≤ (x5_1 : Int) := of_decide_eq_true (by first | (with_reducible assumption) | assumption)
                  have q164 : x5_1 < (l0.length : Int) := of_decide_eq_true (by first | (with_reducible assumption) | assumption)
                  obtain ⟨ad164, e164, hx164_0, hx164_1⟩ := at_T25 HR0.out x5_1 p164 q164
                  cases e164
                  replace hx164_0 := (HB.out.cell (World.block_lt_of_cell? w _ hx164_0)).trans hx164_0
                  replace hx164_1 := (HB.out.cell (World.block_lt_of_cell? w _ hx164_1)).trans hx164_1
                  replace p164 := eq_true p164
                  replace q164 := eq_true q164
                  have hcz10_0 : wc.cell? ⟨gb163, 0, none⟩ = some (.int .u32 a1_0) := (blk_cell BK163.out 0).trans rfl
                  have hcz10_1 : wc.cell? ⟨gb163, 1, none⟩ = some (.string a1_1) := (blk_cell BK163.out 1).trans rfl
                  have hfz10_0 := blk_frozen BK163.out 0
                  have hfz10_1 := blk_frozen BK163.out 1
                  go_wp2
                  repeat (go_quiet (fail); try go_wp2)
                  go_ret
                  exact ⟨by first | rfl | (simp [errW_none, errW_some] <;> rfl) | (simp [*, errW_none, errW_some] <;> rfl), by repeat (first | (with_reducible first | exact HB.out | apply below_alloc | apply pw_below_drewN | apply below_drew1 | refine below_set ?_ GE163.out) | exact HB.out)⟩
                · rw [if_neg c9] at H
                  have c9b0 : (((rd_T25 l0 x5_1).f0) == a1_0 && ((((rd_T25 l0 x5_1).f1).toList) == a1_1.toList)) = false := by simpa using c9
                  (try (have c9b1 : decide (((rd_T25 l0 x5_1).f0) = a1_0 && ((((rd_T25 l0 x5_1).f1).toList) == a1_1.toList)) = false := by simpa using c9))
                  (try (have c9b2 : (((rd_T25 l0 x5_1).f0) == a1_0 && ((((rd_T25 l0 x5_1).f1).toList) == a1_1.toList)) = false := by simpa using c9))
                  (try (have c9b3 : ¬ (((rd_T25 l0 x5_1).f0) = a1_0 && ((((rd_T25 l0 x5_1).f1).toList) == a1_1.toList)) := by simpa using c9))
                  clear c9
                  have H' := Aside0.mk H
                  clear H
                  have p164 : 0 ≤ (x5_1 : Int) := of_decide_eq_true (by first | (with_reducible assumption) | assumption)
                  have q164 : x5_1 < (l0.length : Int) := of_decide_eq_true (by first | (with_reducible assumption) | assumption)
                  obtain ⟨ad164, e164, hx164_0, hx164_1⟩ := at_T25 HR0.out x5_1 p164 q164
                  cases e164
                  replace hx164_0 := (HB.out.cell (World.block_lt_of_cell? w _ hx164_0)).trans hx164_0
                  replace hx164_1 := (HB.out.cell (World.block_lt_of_cell? w _ hx164_1)).trans hx164_1
                  replace p164 := eq_true p164
                  replace q164 := eq_true q164
                  have hcz11_0 : wc.cell? ⟨gb163, 0, none⟩ = some (.int .u32 a1_0) := (blk_cell BK163.out 0).trans rfl
                  have hcz11_1 : wc.cell? ⟨gb163, 1, none⟩ = some (.string a1_1) := (blk_cell BK163.out 1).trans rfl
                  have hfz11_0 := blk_frozen BK163.out 0
                  have hfz11_1 := blk_frozen BK163.out 1
                  go_wp2
                  repeat (go_quiet (fail); try go_wp2)
                  go_roundg kj3
                  case measure => have := HK1.out; have := HJ3.out; omega
                  case rel => exact ⟨(wrap64 (x5_1 + 1)), (by first | rfl | (simp; done) | (simp [*]; done)), H', ⟨by have := HK1.out; have := HJ3.out; omega⟩, ⟨by (with_reducible repeat (first | refine blk_drewN ?_ _ | refine blk_drew ?_ | refine blk_alloc ?_ _)); exact BK163.out⟩, ⟨by repeat (first | (with_reducible first | exact HB.out | apply below_alloc | apply pw_below_drewN | apply below_drew1 | refine below_set ?_ GE163.out) | exact HB.out)⟩⟩
              · rw [if_neg c8] at H
                exact absurd H (by simp)
            · rw [if_neg c7] at H
              exact absurd H (by simp)
          · replace c6 := Bool.eq_false_iff.mpr c6
            subst c6
            have H1 : (some (-1)) = some r := by rw [if_neg (show ¬ (false = true) by decide)] at H; exact H
            clear H
            have H := H1
            clear H1
            obtain rfl := Option.some.inj H
            go_wp2
            repeat (go_quiet (fail); try go_wp2)
            go_ret
            exact ⟨by first | rfl | (simp [errW_none, errW_some] <;> rfl) | (simp [*, errW_none, errW_some] <;> rfl), by repeat (first | (with_reducible first | exact HB.out | apply below_alloc | apply pw_below_drewN | apply below_drew1 | refine below_set ?_ GE163.out) | exact HB.out)⟩

-- NOT PRINTED: function 20 (sign_Index_Weak)

-- NOT PRINTED: function 21 (sign_Index_Len)

-- NOT PRINTED: function 6 (strongroomlaw10_SignFinds)

-- NOT PRINTED: function 7 (strongroomlaw10_SignOwn)

-- NOT PRINTED: function 8 (strongroomlaw10_SignFound)

end Go.Proofs.Ytkapekndfnefeaa.F

-- F16
namespace Go.Proofs.Ytkapekndfnefeaa.F
open Go.RowKit Go.Proofs.YtkapekndfnefeaaW.PrintWords Go.Proofs.YtkapekndfnefeaaW.PrintLast Go.Proofs.YtkapekndfnefeaaW.PrintMore
attribute [local go_sem] max2_int min2_int max_two min_two max_three min_three max_four min_four   -- for this text's walks alone
set_option linter.unusedVariables false
set_option linter.unusedSimpArgs false

attribute [local go_sem high] eqA25
/-! ### strongroomlaw10_few: function 16 -/
def strongroomlaw10_few.l0 : Nat → List (S25) → Int → Option (Bool)
  | 0, _, _ => none
  | k + 1, x0, x3 => if x3 < (x0.length : Int) then (if 0 ≤ x3 then (if (((rd_T25 x0 x3).f1).size : Int) > 100 then (some false) else (strongroomlaw10_few.l0 k x0 (wrap64 (x3 + 1)))) else (none)) else (some true)
def strongroomlaw10_few.f (k : Nat) (l0 : List (S25)) : Option (Bool) := if (l0.length : Int) > 1100 then (some false) else (strongroomlaw10_few.l0 k l0 0)
theorem strongroomlaw10_few.mono_l : ∀ k, (∀ y0 y1, LeO (strongroomlaw10_few.l0 k y0 y1) (strongroomlaw10_few.l0 (k + 1) y0 y1))
  | 0 => fun _ _ r h => by simp [strongroomlaw10_few.l0] at h
  | k + 1 => by
    have ih0 := strongroomlaw10_few.mono_l k
    · intro y0 y1
      unfold strongroomlaw10_few.l0
      repeat' first
      | (with_reducible exact ih0 _ _)
      | (with_reducible exact LeO.refl _)
      | (with_reducible exact LeO.none _)
      | (with_reducible refine LeO.ite ?_ ?_)
      | (with_reducible refine LeO.bind ?_ (fun _ => ?_))
      | exact ih0 _ _
      | exact LeO.none _
      | refine LeO.ite ?_ ?_
      | refine LeO.bind ?_ (fun _ => ?_)
theorem strongroomlaw10_few.mono : ∀ a0 k, LeO (strongroomlaw10_few.f k a0) (strongroomlaw10_few.f (k + 1) a0) := by
  intro a0 k
  have ih0 := strongroomlaw10_few.mono_l k
  unfold strongroomlaw10_few.f
  repeat' first
      | (with_reducible exact ih0 _ _)
      | (with_reducible exact LeO.refl _)
      | (with_reducible exact LeO.none _)
      | (with_reducible refine LeO.ite ?_ ?_)
      | (with_reducible refine LeO.bind ?_ (fun _ => ?_))
      | exact ih0 _ _
      | exact LeO.none _
      | refine LeO.ite ?_ ?_
      | refine LeO.bind ?_ (fun _ => ?_)
set_option maxHeartbeats 8000000 in
set_option maxRecDepth 100000 in
theorem strongroomlaw10_few.calls (k : Nat) (A0 : Option Addr) (c0 : Nat) (l0 : List (S25)) (r : Bool) (w : World) (hr0 : Kd.C k25 w A0 l0.length l0) (hc0 : l0.length ≤ c0) (h : strongroomlaw10_few.f k l0 = some r) :
    Calls Try.prog 16 #[.slice A0 l0.length c0] w fun e w' => e = .returned (.bool r) ∧ Drawn0 w w' := by
  have HR0 := Aside0.mk hr0
  have HC0 := Aside0.mk hc0
  clear hr0 hc0
  have H : (if (l0.length : Int) > 1100 then (some false) else (strongroomlaw10_few.l0 k l0 0)) = some r := h
  clear h
  by_cases c2 : (l0.length : Int) > 1100
  · rw [if_pos c2] at H
    have c2b0 : decide (1100 < (l0.length : Int)) = true := decide_eq_true c2
    have c2b1 : decide (1100 < l0.length) = true := decide_eq_true (by omega)
    clear c2
    obtain rfl := Option.some.inj H
    go_enter Try.func16, Try.ntmps16
    go_wp2
    go_ret
    exact ⟨by first | rfl | (simp; done) | (simp [*]; done), by repeat (first | exact Drawn0.refl _ | apply Drawn0.step)⟩
  · rw [if_neg c2] at H
    have c2b0 : decide (1100 < (l0.length : Int)) = false := decide_eq_false c2
    have c2b1 : decide (1100 < l0.length) = false := decide_eq_false (by omega)
    clear c2
    have H' := Aside0.mk H
    clear H
    go_enter Try.func16, Try.ntmps16
    go_wp2
    go_loopg [3] k (fun kq v3 w' => ∃ (x3_1 : Int), v3 = .int .i64 x3_1 ∧ Aside0 (strongroomlaw10_few.l0 kq l0 x3_1 = some r) ∧ Aside0 (kq ≤ k) ∧ Drawn0 w w')
    case atStart => exact ⟨(0), (by first | rfl | (simp; done) | (simp [*]; done)), H', ⟨Nat.le_refl _⟩, by repeat (first | exact Drawn0.refl _ | apply Drawn0.step)⟩
    case round =>
      clear H'
      try clear c1
      try clear c2
      try clear c2b0
      try clear c2b1
      try clear p2
      obtain ⟨x3_1, rfl, HA, HK1, ⟨m1, rfl⟩⟩ := hrel
      cases gk with
      | zero => exact absurd HA.out (by simp [strongroomlaw10_few.l0])
      | succ k1 =>
        have H := HA.out
        clear HA
        simp only [strongroomlaw10_few.l0] at H
        by_cases c3 : x3_1 < (l0.length : Int)
        · rw [if_pos c3] at H
          have c3b0 : decide (x3_1 < (l0.length : Int)) = true := decide_eq_true c3
          clear c3
          by_cases c4 : 0 ≤ x3_1
          · rw [if_pos c4] at H
            have c4b0 : decide (0 ≤ x3_1) = true := decide_eq_true c4
            clear c4
            by_cases c5 : (((rd_T25 l0 x3_1).f1).size : Int) > 100
            · rw [if_pos c5] at H
              have c5b0 : decide (100 < (((rd_T25 l0 x3_1).f1).size : Int)) = true := decide_eq_true c5
              have c5b1 : decide (100 < ((rd_T25 l0 x3_1).f1).size) = true := decide_eq_true (by omega)
              clear c5
              obtain rfl := Option.some.inj H
              have p162 : 0 ≤ (x3_1 : Int) := of_decide_eq_true (by first | (with_reducible assumption) | assumption)
              have q162 : x3_1 < (l0.length : Int) := of_decide_eq_true (by first | (with_reducible assumption) | assumption)
              obtain ⟨ad162, e162, hx162_0, hx162_1⟩ := at_T25 HR0.out x3_1 p162 q162
              cases e162
              replace p162 := eq_true p162
              replace q162 := eq_true q162
              go_wp2
              go_ret
              exact ⟨by first | rfl | (simp; done) | (simp [*]; done), by repeat (first | exact Drawn0.refl _ | apply Drawn0.step)⟩
            · rw [if_neg c5] at H
              have c5b0 : decide (100 < (((rd_T25 l0 x3_1).f1).size : Int)) = false := decide_eq_false c5
              have c5b1 : decide (100 < ((rd_T25 l0 x3_1).f1).size) = false := decide_eq_false (by omega)
              clear c5
              have H' := Aside0.mk H
              clear H
              have p162 : 0 ≤ (x3_1 : Int) := of_decide_eq_true (by first | (with_reducible assumption) | assumption)
              have q162 : x3_1 < (l0.length : Int) := of_decide_eq_true (by first | (with_reducible assumption) | assumption)
              obtain ⟨ad162, e162, hx162_0, hx162_1⟩ := at_T25 HR0.out x3_1 p162 q162
              cases e162
              replace p162 := eq_true p162
              replace q162 := eq_true q162
              go_wp2
              go_roundg k1
              case measure => have := HK1.out; omega
              case rel => exact ⟨(wrap64 (x3_1 + 1)), (by first | rfl | (simp; done) | (simp [*]; done)), H', ⟨by have := HK1.out; omega⟩, by repeat (first | exact Drawn0.refl _ | apply Drawn0.step)⟩
          · rw [if_neg c4] at H
            exact absurd H (by simp)
        · rw [if_neg c3] at H
          have c3b0 : decide (x3_1 < (l0.length : Int)) = false := decide_eq_false c3
          clear c3
          obtain rfl := Option.some.inj H
          go_wp2
          go_ret
          exact ⟨by first | rfl | (simp; done) | (simp [*]; done), by repeat (first | exact Drawn0.refl _ | apply Drawn0.step)⟩

-- NOT PRINTED: function 17 (sign_New)

-- NOT PRINTED: function 18 (sign_Index_Find)

end Go.Proofs.Ytkapekndfnefeaa.F

-- SgnH
namespace Go.Proofs.Ytkapekndfnefeaa.F
open Go Go.RowKit Go.Proofs.YtkapekndfnefeaaW.PrintWords Go.Proofs.YtkapekndfnefeaaW.PrintLast Go.Proofs.YtkapekndfnefeaaW.PrintMore Go.Proofs.YtkapekndfnefeaaM Go.Proofs.YtkapekndfnefeaaR
open Go.ChangeShapes
set_option linter.unusedSimpArgs false
set_option linter.unusedVariables false
set_option maxRecDepth 100000
/-- is this the signature? -/
def isS (s x : S25) : Bool := decide (x.f0 = s.f0) && decide (x.f1 = s.f1)
def pairO : Option Nat → Int × Bool
  | some j => ((j : Int), true)
  | none => (0, false)
def intO : Option Nat → Int
  | some j => (j : Int)
  | none => -1
theorem findP_from (L : List S25) (s : S25) : ∀ (suf pre : List S25), L = pre ++ suf →
    findP L s.f1 (((List.range' pre.length suf.length).filter fun i => decide ((L.getD i z25).f0 = s.f0)).map fun i : Nat => (i : Int)) = pairO ((suf.findIdx? (isS s)).map (pre.length + ·))
  | [], pre, _ => by simp [findP, pairO]
  | x :: suf, pre, h => by
    have ih := findP_from L s suf (pre ++ [x]) (by rw [h]; simp)
    rw [List.length_append, List.length_singleton] at ih
    have hx : L.getD pre.length z25 = x := by rw [h]; simp [List.getD]
    rw [List.length_cons, List.range'_succ, List.findIdx?_cons]
    by_cases h0 : x.f0 = s.f0
    · rw [List.filter_cons_of_pos (by rw [hx]; exact decide_eq_true h0), List.map_cons, findP, Int.toNat_natCast, hx]
      by_cases h1 : x.f1 = s.f1
      · rw [if_pos h1]
        simp [isS, h0, h1, pairO]
      · rw [if_neg h1, ih]
        simp [isS, h1]
        cases suf.findIdx? (isS s) <;> simp [pairO]; omega
    · rw [List.filter_cons_of_neg (by rw [hx]; simpa using h0), ih]
      simp [isS, h0]
      cases suf.findIdx? (isS s) <;> simp [pairO]; omega
theorem findP_eq (L : List S25) (s : S25) : findP L s.f1 (posns L s.f0) = pairO (L.findIdx? (isS s)) := by
  have := findP_from L s L [] rfl
  unfold posns
  rw [List.range_eq_range', show List.length ([] : List S25) = 0 from rfl] at *
  rw [this]
  cases L.findIdx? (isS s) <;> simp
theorem isS_eq (s x : S25) : ((x.f0 == s.f0) && (x.f1.toList == s.f1.toList)) = isS s x := by
  rw [toList_beq]; unfold isS
  rw [Bool.eq_iff_iff]; simp
theorem rfind_l0 (l : List S25) (s : S25) (hl : l.length ≤ 100000) : ∀ (suf pre : List S25) (k : Nat), l = pre ++ suf → 2 * suf.length + 2 ≤ k →
    strongroomref10_Find.l0 k l (pre.length : Int) s.f0 s.f1 = some (intO (((suf.take (1024 - pre.length)).findIdx? (isS s)).map (pre.length + ·)))
  | [], pre, k, h, hk => by
    obtain ⟨k, rfl⟩ : ∃ m, k = m + 2 := ⟨k - 2, by simp at hk; omega⟩
    rw [strongroomref10_Find.l0, if_neg (by rw [h]; simp), strongroomref10_Find.j1, if_neg (by simp)]
    simp [intO]
  | x :: suf, pre, k, h, hk => by
    obtain ⟨k, rfl⟩ : ∃ m, k = m + 2 := ⟨k - 2, by simp at hk; omega⟩
    have hlt : pre.length < l.length := by rw [h]; simp
    rw [strongroomref10_Find.l0, if_pos (by omega), strongroomref10_Find.j1]
    by_cases hc : (pre.length : Int) < 1024
    · rw [if_pos (decide_eq_true hc), if_pos (by omega), if_pos (by omega)]
      have hx : rd_T25 l (pre.length : Int) = x := by unfold rd_T25; rw [Int.toNat_natCast, h]; simp [List.getD]
      rw [hx, isS_eq, show 1024 - pre.length = (1024 - (pre.length + 1)) + 1 from by omega, List.take_succ_cons, List.findIdx?_cons]
      by_cases hs : isS s x = true
      · rw [if_pos hs, if_pos hs]; simp [intO]
      · rw [if_neg hs, if_neg hs]
        have hw : wrap64 ((pre.length : Int) + 1) = ((pre ++ [x]).length : Int) := by rw [List.length_append, List.length_singleton]; unfold wrap64; omega
        rw [hw, rfind_l0 l s hl suf (pre ++ [x]) k (by rw [h]; simp) (by simp at hk; omega), List.length_append, List.length_singleton]
        cases (suf.take (1024 - (pre.length + 1))).findIdx? (isS s) <;> simp [intO]; omega
    · rw [if_neg (by simpa using hc), show 1024 - pre.length = 0 from by omega]
      simp [intO]
theorem rfind_f (l : List S25) (s : S25) (hl : l.length ≤ 100000) : strongroomref10_Find.f (2 * l.length + 2) l s.f0 s.f1 = some (intO ((l.take 1024).findIdx? (isS s))) := by
  unfold strongroomref10_Find.f
  have := rfind_l0 l s hl l [] (2 * l.length + 2) rfl (Nat.le_refl _)
  rw [show ((List.length ([] : List S25) : Nat) : Int) = 0 from rfl] at this
  rw [this]
  cases (l.take 1024).findIdx? (isS s) <;> simp [intO]
theorem few_l0 (l : List S25) (hl : l.length ≤ 1100) : ∀ (suf pre : List S25) (k : Nat), l = pre ++ suf → suf.length + 1 ≤ k →
    ∃ b, strongroomlaw10_few.l0 k l (pre.length : Int) = some b ∧ (b = true → ∀ x ∈ suf, x.f1.size ≤ 100)
  | [], pre, k, h, hk => by
    obtain ⟨k, rfl⟩ : ∃ m, k = m + 1 := ⟨k - 1, by simp at hk; omega⟩
    exact ⟨true, by rw [strongroomlaw10_few.l0, if_neg (by rw [h]; simp)], fun _ x hx => by cases hx⟩
  | x :: suf, pre, k, h, hk => by
    obtain ⟨k, rfl⟩ : ∃ m, k = m + 1 := ⟨k - 1, by simp at hk; omega⟩
    have hlt : pre.length < l.length := by rw [h]; simp
    have hx : rd_T25 l (pre.length : Int) = x := by unfold rd_T25; rw [Int.toNat_natCast, h]; simp [List.getD]
    rw [strongroomlaw10_few.l0, if_pos (by omega), if_pos (by omega), hx]
    by_cases hs : ((x.f1.size : Int) > 100)
    · exact ⟨false, by rw [if_pos hs], fun h => by cases h⟩
    · have hw : wrap64 ((pre.length : Int) + 1) = ((pre ++ [x]).length : Int) := by rw [List.length_append, List.length_singleton]; unfold wrap64; omega
      obtain ⟨b, h1, h2⟩ := few_l0 l hl suf (pre ++ [x]) k (by rw [h]; simp) (by simp at hk; omega)
      refine ⟨b, by rw [if_neg hs, hw]; exact h1, fun hb y hy => ?_⟩
      rcases List.mem_cons.1 hy with rfl | hy
      · omega
      · exact h2 hb y hy
theorem few_f (l : List S25) : ∃ b, strongroomlaw10_few.f (l.length + 1) l = some b ∧ (b = true → l.length ≤ 1100 ∧ ∀ x ∈ l, x.f1.size ≤ 100) := by
  unfold strongroomlaw10_few.f
  by_cases h : (l.length : Int) > 1100
  · exact ⟨false, by rw [if_pos h], fun h => by cases h⟩
  · obtain ⟨b, h1, h2⟩ := few_l0 l (by omega) l [] (l.length + 1) rfl (Nat.le_refl _)
    exact ⟨b, by rw [if_neg h]; exact h1, fun hb => ⟨by omega, h2 hb⟩⟩
theorem few_c (l : List S25) : ∃ b, (b = true → l.length ≤ 1100 ∧ ∀ x ∈ l, x.f1.size ≤ 100) ∧ ∀ (w : World) (A : Option Addr) (c : Nat), Kd.C k25 w A l.length l → l.length ≤ c →
    Calls Try.prog 16 #[.slice A l.length c] w (Tells w (Is (.bool b))) := by
  obtain ⟨b, h1, h2⟩ := few_f l
  exact ⟨b, h2, fun w A c hC hc => tells_is ((strongroomlaw10_few.calls _ A c l b w hC hc h1).mono fun _ _ ⟨h, k⟩ => ⟨h, k.below⟩)⟩
theorem rfind_c (w : World) (A : Option Addr) (c : Nat) (l : List S25) (s : S25) (hC : Kd.C k25 w A l.length l) (hc : l.length ≤ c) (hl : l.length ≤ 100000) :
    Calls Try.prog 19 #[.slice A l.length c, .agg #[.int .u32 s.f0, .string s.f1]] w (Tells w (Is (.int .i64 (intO ((l.take 1024).findIdx? (isS s)))))) :=
  tells_is ((strongroomref10_Find.calls _ A c l s.f0 s.f1 _ w hC hc (rfind_f l s hl)).mono fun _ _ ⟨h, k⟩ => ⟨h, k⟩)
end Go.Proofs.Ytkapekndfnefeaa.F

-- Open
namespace Go.Proofs.YtkapekndfnefeaaO
set_option linter.unusedSimpArgs false
open Go Go.RowKit Go.ChangeShapes Go.WideShapes Go.ChangeAt Go.Proofs.YtkapekndfnefeaaW.PrintWords
/-- cells of type t that can be read as data are some x of kind d -/
def Opens {α : Type} (P : Program) (t : TypeId) (d : Kd α) (ok : α → Prop) : Prop :=
  ∀ (H : Type) (enc : TypeId × Value → H) (W : World) (sp : Nat → Bool) (held : Bool) (fuel : Nat) (cs : List Value) (y : DataW H × List MemPlace), DataW.trod enc P W 0 sp held fuel t cs = some y → ∃ x, d.K W x cs ∧ ok x
section
variable {P : Program} {α : Type}
theorem opens_int {t : TypeId} {k : IntKind} (hu : P.underlying t = some (.int k)) : Opens P t (Kd.int k) (fun x => (Lit.int k x).wf = true) := by
  intro H enc W sp held fuel cs y h
  cases fuel with
  | zero => simp [DataW.trod] at h
  | succ n =>
    have key : ∃ n', cs = [.int k n'] ∧ (Lit.int k n').wf = true := by
      simp only [DataW.trod, hu] at h
      split at h <;> simp_all
    obtain ⟨x, rfl, hx⟩ := key
    exact ⟨x, rfl, hx⟩
theorem opens_bool {t : TypeId} (hu : P.underlying t = some .bool) : Opens P t Kd.bool (fun _ => True) := by
  intro H enc W sp held fuel cs y h
  cases fuel with
  | zero => simp [DataW.trod] at h
  | succ n =>
    have key : ∃ b, cs = [.bool b] := by
      simp only [DataW.trod, hu] at h
      split at h <;> simp_all
    obtain ⟨x, rfl⟩ := key
    exact ⟨x, rfl, trivial⟩
theorem opens_string {t : TypeId} (hu : P.underlying t = some .string) : Opens P t Kd.string (fun s => s.size ≤ maxLen) := by
  intro H enc W sp held fuel cs y h
  cases fuel with
  | zero => simp [DataW.trod] at h
  | succ n =>
    simp only [DataW.trod, hu] at h
    split at h <;> simp_all
    exact ⟨_, rfl, h.1⟩
theorem mapM_get {β γ : Type} {f : β → Option γ} : ∀ {l : List β} {ys : List γ}, l.mapM f = some ys → ys.length = l.length ∧ ∀ (i : Nat) (x : β), l[i]? = some x → ∃ y, f x = some y
  | [], ys, h => by simp at h; subst h; simp
  | a :: l, ys, h => by
    simp only [List.mapM_cons] at h
    obtain ⟨b, hb, h⟩ := Option.bind_eq_some_iff.1 h
    obtain ⟨bs, hbs, h⟩ := Option.bind_eq_some_iff.1 h
    simp at h
    subst h
    have ih := mapM_get hbs
    refine ⟨by simp [ih.1], fun i x hx => ?_⟩
    cases i with
    | zero => simp at hx; subst hx; exact ⟨b, hb⟩
    | succ i => simp at hx; exact ih.2 i x hx
theorem choose_list {ok : α → Prop} {Q : Nat → α → Prop} : ∀ n : Nat, (∀ i, i < n → ∃ x, Q i x ∧ ok x) → ∃ xs : List α, xs.length = n ∧ (∀ (i : Nat) (x : α), xs[i]? = some x → Q i x) ∧ ∀ x ∈ xs, ok x
  | 0, _ => ⟨[], rfl, by simp, by simp⟩
  | n + 1, h => by
    obtain ⟨xs, h1, h2, h3⟩ := choose_list n (fun i hi => h i (by omega))
    obtain ⟨x, hx, hk⟩ := h n (by omega)
    refine ⟨xs ++ [x], by simp [h1], fun i y hy => ?_, fun y hy => ?_⟩
    · rcases Nat.lt_or_ge i n with hlt | hge
      · rw [List.getElem?_append_left (by omega)] at hy; exact h2 i y hy
      · rw [List.getElem?_append_right (by omega)] at hy
        have : i = n := by
          rcases Nat.lt_or_ge n i with h' | h'
          · rw [List.getElem?_eq_none (by simp; omega)] at hy; cases hy
          · omega
        subst this
        simp [h1] at hy
        subst hy; exact hx
    · rcases List.mem_append.1 hy with hy | hy
      · exact h3 y hy
      · simp at hy; subst hy; exact hk
theorem cells_get {W : World} {a : Addr} {n : Nat} {cs : List Value} (h : W.cells? 0 a n = some cs) : cs.length = n ∧ ∀ (i : Nat) (u : Value), cs[i]? = some u → W.cell? (a.add i) = some u := by
  unfold World.cells? at h
  rw [if_pos (Nat.zero_le _)] at h
  have h1 := mapM_get h
  refine ⟨by simpa using h1.1, fun i u hu => ?_⟩
  have hi : i < n := by
    have := (List.getElem?_eq_some_iff.1 hu).1
    rw [h1.1] at this; simpa using this
  obtain ⟨y, hy⟩ := h1.2 i i (by simp [hi])
  have key : ∀ (l : List Nat) (ys : List Value), l.mapM (fun i => W.cell? (a.add i)) = some ys → ∀ (j : Nat), ys[j]? = (l[j]?).bind fun i => W.cell? (a.add i) := by
    intro l
    induction l with
    | nil => intro ys h j; simp at h; subst h; simp
    | cons b l ih =>
      intro ys h j
      simp only [List.mapM_cons] at h
      obtain ⟨c, hc, h⟩ := Option.bind_eq_some_iff.1 h
      obtain ⟨cs', hcs, h⟩ := Option.bind_eq_some_iff.1 h
      simp at h; subst h
      cases j with
      | zero => simp [hc]
      | succ j => simpa using ih cs' hcs j
  have := key _ _ h i
  rw [hu] at this
  simp [hi] at this
  exact this.symm
theorem opens_slice {t e : TypeId} {d : Kd α} {ok : α → Prop} (hu : P.underlying t = some (.slice e)) (he : Opens P e d ok) (hc : P.cellsOf e = d.sz) : Opens P t (Kd.slice e d) (fun xs => ∀ x ∈ xs, ok x) := by
  intro H enc W sp held fuel cs y h
  cases fuel with
  | zero => simp [DataW.trod] at h
  | succ n =>
    have key : cs = [.slice none 0 0] ∨ ∃ a len cap, cs = [.slice (some a) len cap] ∧ len ≤ cap ∧ cap ≤ maxLen ∧ ∃ elems, (List.range len).mapM (fun i => (W.cells? 0 (a.add (i * P.cellsOf e)) (P.cellsOf e)).bind (DataW.trod enc P W 0 sp held n e)) = some elems := by
      simp only [DataW.trod, hu] at h
      split at h <;> try (simp_all; done)
      rename_i e' a len cap heq
      simp only [Option.some.injEq, TypeDesc.slice.injEq] at heq
      subst heq
      split at h
      · rename_i hb
        obtain ⟨elems, he1, _⟩ := Option.bind_eq_some_iff.1 h
        exact .inr ⟨a, len, cap, rfl, hb.2.1, hb.2.2, elems, he1⟩
      · cases h
    rcases key with rfl | ⟨a, len, cap, rfl, h1, h2, elems, he1⟩
    · exact ⟨[], ⟨none, 0, rfl, by simp, by simp [Kd.C, ReadsRow]⟩, by simp⟩
    · rw [hc] at he1
      have hm := mapM_get he1
      obtain ⟨xs, x1, x2, x3⟩ := choose_list (ok := ok) (Q := fun i x => ∃ c, W.cells? 0 (a.add (i * d.sz)) d.sz = some c ∧ d.K W x c) len (fun i hi => by
        obtain ⟨z, hz⟩ := hm.2 i i (by simp [hi])
        obtain ⟨c, hc1, hc2⟩ := Option.bind_eq_some_iff.1 hz
        obtain ⟨x, hx, hk⟩ := he H enc W sp held n c z hc2
        exact ⟨x, ⟨c, hc1, hx⟩, hk⟩)
      refine ⟨xs, ⟨some a, cap, by rw [x1], by omega, ?_⟩, x3⟩
      refine ⟨rfl, by have : maxLen = 9223372036854775807 := rfl; omega, fun _ => ⟨a, rfl, fun j p hp => ?_⟩⟩
      obtain ⟨c, hc1, hk⟩ := x2 j p hp
      have hg := cells_get hc1
      refine ⟨c, hg.1, hk, fun i u hiu => ?_⟩
      have := hg.2 i u hiu
      rw [← this]
      congr 1
      unfold Addr.add
      by_cases z1 : j * d.sz = 0
      · rw [if_pos z1]
        by_cases z2 : i = 0
        · simp [z1, z2]
        · rw [if_neg (by omega), if_neg z2]; simp [z1]
      · rw [if_neg z1, if_neg (by omega)]
        by_cases z2 : i = 0
        · simp [z2]
        · rw [if_neg z2]; simp [Nat.add_assoc]
theorem opens_array {t e n : Nat} {d : Kd α} {ok : α → Prop} (hs : 0 < d.sz) (hu : P.underlying t = some (.array n e)) (he : Opens P e d ok) (hc : P.cellsOf e = d.sz) (ht : P.cellsOf t = n * d.sz) : Opens P t (Kd.arr n d hs) (fun xs => ∀ x ∈ xs, ok x) := by
  intro H enc W sp held fuel cs y h
  cases fuel with
  | zero => simp [DataW.trod] at h
  | succ m =>
    simp only [DataW.trod, hu] at h
    split at h
    · rename_i hl
      obtain ⟨ys, hy, _⟩ := Option.map_eq_some_iff.1 h
      have hm := mapM_get hy
      obtain ⟨xs, x1, x2, x3⟩ := choose_list (ok := ok) (Q := fun i x => d.K W x ((cs.drop (i * d.sz)).take d.sz)) n (fun i hi => by
        obtain ⟨z, hz⟩ := hm.2 i i (by simp [hi])
        rw [hc] at hz
        exact he H enc W sp held m _ z hz)
      exact ⟨xs, ⟨x1, by rw [x1, hl, ht], x2⟩, x3⟩
    · cases h
/-- an argument of a kind -/
theorem opens_arg {t : TypeId} {d : Kd α} {ok : α → Prop} (ho : Opens P t d ok) {H : Type} {enc : TypeId × Value → H} {W : World} {sp : Nat → Bool} {held : Bool} {v : Value} {y : DataW H} {ps : List MemPlace} (h : DataW.Trod enc P W 0 sp held t v y ps) : ∃ x, d.K W x v.cells.toList ∧ ok x := by
  obtain ⟨fuel, hf⟩ := h
  exact ho H enc W sp held fuel _ _ hf
theorem okWide_array {t n e : Nat} {r : Reach} {b0 : Nat} {v : Value} {W : World} (hu : P.underlying t = some (.array n e)) (h : Value.okWide P W r b0 t v) : ∃ cs, v = .agg cs ∧ cs.size = P.cellsOf t := by
  simp only [Value.okWide, hu] at h
  obtain ⟨cs, h1, h2, _⟩ := h
  exact ⟨cs, h1, h2⟩
theorem arr2 {d : Kd α} {hs : 0 < d.sz} (h1 : d.sz = 1) {W : World} {x : List α} {cs : Array Value} (h : (Kd.arr 2 d hs).K W x cs.toList) : ∃ a b c0 c1, x = [a, b] ∧ cs = #[c0, c1] ∧ d.K W a [c0] ∧ d.K W b [c1] := by
  obtain ⟨hl, hc, hr⟩ := h
  rw [hl, h1] at hc
  obtain ⟨l⟩ := cs
  match x, hl, l, hc, hr with
  | [a, b], _, [c0, c1], _, hr => exact ⟨a, b, c0, c1, rfl, rfl, by have := hr 0 a rfl; rw [h1] at this; exact this, by have := hr 1 b rfl; rw [h1] at this; exact this⟩
theorem arr3 {d : Kd α} {hs : 0 < d.sz} (h1 : d.sz = 1) {W : World} {x : List α} {cs : Array Value} (h : (Kd.arr 3 d hs).K W x cs.toList) : ∃ a b c c0 c1 c2, x = [a, b, c] ∧ cs = #[c0, c1, c2] ∧ d.K W a [c0] ∧ d.K W b [c1] ∧ d.K W c [c2] := by
  obtain ⟨hl, hc, hr⟩ := h
  rw [hl, h1] at hc
  obtain ⟨l⟩ := cs
  match x, hl, l, hc, hr with
  | [a, b, c], _, [c0, c1, c2], _, hr => exact ⟨a, b, c, c0, c1, c2, rfl, rfl, by have := hr 0 a rfl; rw [h1] at this; exact this, by have := hr 1 b rfl; rw [h1] at this; exact this, by have := hr 2 c rfl; rw [h1] at this; exact this⟩
end
end Go.Proofs.YtkapekndfnefeaaO

-- OpenW
namespace Go.Proofs.YtkapekndfnefeaaO
set_option linter.unusedSimpArgs false
open Go Go.RowKit Go.ChangeShapes Go.WideShapes Go.ChangeAt Go.Proofs.YtkapekndfnefeaaW.PrintWords
/-- cells of type t that can be read as data of no more weight than is reached are some x of kind d -/
def OpensW {α : Type} (P : Program) (t : TypeId) (d : Kd α) (ok : α → Prop) : Prop :=
  ∀ (H : Type) (enc : TypeId × Value → H) (W : World) (sp : Nat → Bool) (held : Bool) (fuel : Nat) (cs : List Value) (y : DataW H × List MemPlace), DataW.trod enc P W 0 sp held fuel t cs = some y → (∀ n ∈ y.1.weights P t, n ≤ reachBytes) → ∃ x, d.K W x cs ∧ ok x
section
variable {P : Program} {α : Type}
theorem Opens.w {t : TypeId} {d : Kd α} {ok : α → Prop} (h : Opens P t d ok) : OpensW P t d ok := fun H enc W sp held fuel cs y hy _ => h H enc W sp held fuel cs y hy
theorem opensW_string {t : TypeId} (hu : P.underlying t = some .string) : OpensW P t Kd.string (fun s => s.size ≤ 140737488351232) := by
  intro H enc W sp held fuel cs y h hw
  cases fuel with
  | zero => simp [DataW.trod] at h
  | succ n =>
    have key : ∃ s, cs = [.string s] ∧ y.1 = .lit (.string s.data.toList) := by
      simp only [DataW.trod, hu] at h
      split at h <;> simp_all
      rw [← h.2]
    obtain ⟨s, rfl, hy⟩ := key
    refine ⟨s, rfl, ?_⟩
    have := hw s.size (by rw [hy]; simp [DataW.weights])
    exact this
theorem mapM_mem {β γ : Type} {f : β → Option γ} : ∀ {l : List β} {ys : List γ}, l.mapM f = some ys → ∀ (x : β) (z : γ), x ∈ l → f x = some z → z ∈ ys
  | [], ys, h, x, z, hx, _ => by simp at hx
  | a :: l, ys, h, x, z, hx, hz => by
    simp only [List.mapM_cons] at h
    obtain ⟨b, hb, h⟩ := Option.bind_eq_some_iff.1 h
    obtain ⟨bs, hbs, h⟩ := Option.bind_eq_some_iff.1 h
    simp at h
    subst h
    rcases List.mem_cons.1 hx with rfl | hx
    · rw [hb] at hz; injection hz with hz; subst hz; simp
    · exact List.mem_cons_of_mem _ (mapM_mem hbs x z hx hz)
theorem weightsAll_mem {H : Type} {e : TypeId} {d : DataW H} {n : Nat} : ∀ {ds : List (DataW H)}, d ∈ ds → n ∈ d.weights P e → n ∈ DataW.weightsAll P e ds
  | [], h, _ => by simp at h
  | a :: ds, h, hn => by
    simp only [DataW.weightsAll]
    rcases List.mem_cons.1 h with rfl | h
    · exact List.mem_append_left _ hn
    · exact List.mem_append_right _ (weightsAll_mem h hn)
theorem opensW_slice {t e : TypeId} {d : Kd α} {ok : α → Prop} (hu : P.underlying t = some (.slice e)) (he : OpensW P e d ok) (hc : P.cellsOf e = d.sz) : OpensW P t (Kd.slice e d) (fun xs => ∀ x ∈ xs, ok x) := by
  intro H enc W sp held fuel cs y h hw
  cases fuel with
  | zero => simp [DataW.trod] at h
  | succ n =>
    have key : cs = [.slice none 0 0] ∨ ∃ a len cap, cs = [.slice (some a) len cap] ∧ len ≤ cap ∧ cap ≤ maxLen ∧ ∃ elems rest, (List.range len).mapM (fun i => (W.cells? 0 (a.add (i * P.cellsOf e)) (P.cellsOf e)).bind (DataW.trod enc P W 0 sp held n e)) = some elems ∧ y.1 = .slice (elems.map (·.1)) rest := by
      simp only [DataW.trod, hu] at h
      split at h <;> try (simp_all; done)
      rename_i e' a len cap heq
      simp only [Option.some.injEq, TypeDesc.slice.injEq] at heq
      subst heq
      split at h
      · rename_i hb
        obtain ⟨elems, he1, h⟩ := Option.bind_eq_some_iff.1 h
        obtain ⟨rest, _, h⟩ := Option.map_eq_some_iff.1 h
        refine .inr ⟨a, len, cap, rfl, hb.2.1, hb.2.2, elems, rest.map (·.1), he1, ?_⟩
        rw [← h]
      · cases h
    rcases key with rfl | ⟨a, len, cap, rfl, h1, h2, elems, rest, he1, hy⟩
    · exact ⟨[], ⟨none, 0, rfl, by simp, by simp [Kd.C, ReadsRow]⟩, by simp⟩
    · rw [hc] at he1
      have hm := mapM_get he1
      obtain ⟨xs, x1, x2, x3⟩ := choose_list (ok := ok) (Q := fun i x => ∃ c, W.cells? 0 (a.add (i * d.sz)) d.sz = some c ∧ d.K W x c) len (fun i hi => by
        obtain ⟨z, hz⟩ := hm.2 i i (by simp [hi])
        have hmem := mapM_mem he1 i z (by simp [hi]) hz
        obtain ⟨c, hc1, hc2⟩ := Option.bind_eq_some_iff.1 hz
        obtain ⟨x, hx, hk⟩ := he H enc W sp held n c z hc2 (fun q hq => hw q (by
          rw [hy]
          simp only [DataW.weights, hu]
          exact List.mem_cons_of_mem _ (List.mem_append_left _ (weightsAll_mem (List.mem_map_of_mem hmem) hq))))
        exact ⟨x, ⟨c, hc1, hx⟩, hk⟩)
      refine ⟨xs, ⟨some a, cap, by rw [x1], by omega, ?_⟩, x3⟩
      refine ⟨rfl, by have : maxLen = 9223372036854775807 := rfl; omega, fun _ => ⟨a, rfl, fun j p hp => ?_⟩⟩
      obtain ⟨c, hc1, hk⟩ := x2 j p hp
      have hg := cells_get hc1
      refine ⟨c, hg.1, hk, fun i u hiu => ?_⟩
      have := hg.2 i u hiu
      rw [← this]
      congr 1
      unfold Addr.add
      by_cases z1 : j * d.sz = 0
      · rw [if_pos z1]
        by_cases z2 : i = 0
        · simp [z1, z2]
        · rw [if_neg (by omega), if_neg z2]; simp [z1]
      · rw [if_neg z1, if_neg (by omega)]
        by_cases z2 : i = 0
        · simp [z2]
        · rw [if_neg z2]; simp [Nat.add_assoc]
theorem opensW_array {t e n : Nat} {d : Kd α} {ok : α → Prop} (hs : 0 < d.sz) (hu : P.underlying t = some (.array n e)) (he : OpensW P e d ok) (hc : P.cellsOf e = d.sz) (ht : P.cellsOf t = n * d.sz) : OpensW P t (Kd.arr n d hs) (fun xs => ∀ x ∈ xs, ok x) := by
  intro H enc W sp held fuel cs y h hw
  cases fuel with
  | zero => simp [DataW.trod] at h
  | succ m =>
    simp only [DataW.trod, hu] at h
    split at h
    · rename_i hl
      obtain ⟨ys, hy, hyy⟩ := Option.map_eq_some_iff.1 h
      have hm := mapM_get hy
      obtain ⟨xs, x1, x2, x3⟩ := choose_list (ok := ok) (Q := fun i x => d.K W x ((cs.drop (i * d.sz)).take d.sz)) n (fun i hi => by
        obtain ⟨z, hz⟩ := hm.2 i i (by simp [hi])
        have hmem := mapM_mem hy i z (by simp [hi]) hz
        rw [hc] at hz
        exact he H enc W sp held m _ z hz (fun q hq => hw q (by
          rw [← hyy]
          simp only [DataW.weights, hu]
          exact weightsAll_mem (List.mem_map_of_mem hmem) hq)))
      exact ⟨xs, ⟨x1, by rw [x1, hl, ht], x2⟩, x3⟩
    · cases h
/-- an argument of a kind -/
theorem opensW_arg {t : TypeId} {d : Kd α} {ok : α → Prop} (ho : OpensW P t d ok) {H : Type} {enc : TypeId × Value → H} {W : World} {sp : Nat → Bool} {held : Bool} {v : Value} {y : DataW H} {ps : List MemPlace} {ts : List TypeId} {ds : List (DataW H)} {j : Nat}
    (hsz : (DataW.weightsEach P ts ds).all (· ≤ reachBytes) = true) (ht : ts[j]? = some t) (hd : ds[j]? = some y) (h : DataW.Trod enc P W 0 sp held t v y ps) : ∃ x, d.K W x v.cells.toList ∧ ok x := by
  obtain ⟨fuel, hf⟩ := h
  exact ho H enc W sp held fuel _ _ hf (fun n hn => by
    have := List.all_eq_true.1 hsz _ (DataW.weights_mem_each ht hd n hn)
    simpa using this)
end
end Go.Proofs.YtkapekndfnefeaaO

-- OpenS
namespace Go.Proofs.YtkapekndfnefeaaO
set_option linter.unusedSimpArgs false
open Go Go.RowKit Go.ChangeShapes Go.WideShapes Go.ChangeAt Go.Proofs.YtkapekndfnefeaaW.PrintWords
section
variable {P : Program} {α β : Type}
/-- the fields from a place on -/
def OpensF (P : Program) (fs : List Field) (off : Nat) (d : Kd α) (ok : α → Prop) : Prop :=
  ∀ (H : Type) (enc : TypeId × Value → H) (W : World) (sp : Nat → Bool) (held : Bool) (fuel : Nat) (cs : List Value) (ys : List (DataW H × List MemPlace)),
    fs.mapM (fun f => DataW.trod enc P W 0 sp held fuel f.type ((cs.drop f.offset).take (P.cellsOf f.type))) = some ys → (∀ n ∈ DataW.weightsEach P (fs.map (·.type)) (ys.map (·.1)), n ≤ reachBytes) →
    ∃ x, d.K W x ((cs.drop off).take d.sz) ∧ ok x
theorem opensF_one {f : Field} {d : Kd α} {ok : α → Prop} (h : OpensW P f.type d ok) (hc : P.cellsOf f.type = d.sz) : OpensF P [f] f.offset d ok := by
  intro H enc W sp held fuel cs ys hy hw
  simp only [List.mapM_cons, List.mapM_nil] at hy
  obtain ⟨y, hy1, hy⟩ := Option.bind_eq_some_iff.1 hy
  simp at hy
  subst hy
  rw [hc] at hy1
  exact h H enc W sp held fuel _ y hy1 fun n hn => hw n (by simp [DataW.weightsEach, hn])
theorem opensF_cons {f : Field} {fs : List Field} {d : Kd α} {d2 : Kd β} {ok : α → Prop} {ok2 : β → Prop} (h : OpensW P f.type d ok) (hc : P.cellsOf f.type = d.sz) (h2 : OpensF P fs (f.offset + d.sz) d2 ok2) :
    OpensF P (f :: fs) f.offset (Kd.pair d d2) (fun x => ok x.1 ∧ ok2 x.2) := by
  intro H enc W sp held fuel cs ys hy hw
  simp only [List.mapM_cons] at hy
  obtain ⟨y, hy1, hy⟩ := Option.bind_eq_some_iff.1 hy
  obtain ⟨ys2, hy2, hy⟩ := Option.bind_eq_some_iff.1 hy
  simp at hy
  subst hy
  rw [hc] at hy1
  obtain ⟨x1, k1, o1⟩ := h H enc W sp held fuel _ y hy1 fun n hn => hw n (by simp [DataW.weightsEach, hn])
  obtain ⟨x2, k2, o2⟩ := h2 H enc W sp held fuel cs ys2 hy2 fun n hn => hw n (by
    simp only [List.map_cons, DataW.weightsEach]
    exact List.mem_append_right _ hn)
  refine ⟨(x1, x2), ⟨_, _, ?_, k1, k2⟩, o1, o2⟩
  show (cs.drop f.offset).take (d.sz + d2.sz) = _
  rw [List.take_add, List.drop_drop]
theorem opensW_struct {t : TypeId} {fs : Array Field} {d : Kd α} {ok : α → Prop} (hu : P.underlying t = some (.struct fs)) (h : OpensF P fs.toList 0 d ok) (hc : P.cellsOf t = d.sz) : OpensW P t d ok := by
  intro H enc W sp held fuel cs y hy hw
  cases fuel with
  | zero => simp [DataW.trod] at hy
  | succ n =>
    have key : cs.length = P.cellsOf t ∧ ∃ ys, fs.toList.mapM (fun f => DataW.trod enc P W 0 sp held n f.type ((cs.drop f.offset).take (P.cellsOf f.type))) = some ys ∧ y.1 = .agg (ys.map (·.1)) := by
      simp only [DataW.trod, hu] at hy
      split at hy
      · rename_i hl
        obtain ⟨ys, h1, h2⟩ := Option.map_eq_some_iff.1 hy
        exact ⟨hl, ys, h1, by rw [← h2]⟩
      · cases hy
    obtain ⟨hl, ys, hy1, hy2⟩ := key
    obtain ⟨x, hx, ho⟩ := h H enc W sp held n cs ys hy1 fun q hq => hw q (by
      rw [hy2]
      simp only [DataW.weights, hu]
      exact hq)
    refine ⟨x, ?_, ho⟩
    rw [List.drop_zero, ← hc, ← hl, List.take_length] at hx
    exact hx
theorem opensW_iso {t : TypeId} {d : Kd α} {ok : α → Prop} (f : β → α) (g : α → β) (hfg : ∀ x, f (g x) = x) (h : OpensW P t d ok) : OpensW P t (Kd.iso d f) (fun x => ok (f x)) := by
  intro H enc W sp held fuel cs y hy hw
  obtain ⟨x, hx, ho⟩ := h H enc W sp held fuel cs y hy hw
  exact ⟨g x, by show d.K W (f (g x)) cs; rw [hfg]; exact hx, by show ok (f (g x)); rw [hfg]; exact ho⟩
theorem okWide_struct {t : TypeId} {fs : Array Field} {r : Reach} {b0 : Nat} {v : Value} {W : World} (hu : P.underlying t = some (.struct fs)) (h : Value.okWide P W r b0 t v) : ∃ cs, v = .agg cs ∧ cs.size = P.cellsOf t := by
  simp only [Value.okWide, hu] at h
  obtain ⟨cs, h1, h2, _⟩ := h
  exact ⟨cs, h1, h2⟩
end
end Go.Proofs.YtkapekndfnefeaaO
