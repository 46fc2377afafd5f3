/- Texts of this seat laid together: SgnG, RegB, SgnI, SgnF, DelP, DelB, SgnN, DelK, DelL, F18, F19, DelS, DelG, DelH, DelT, DelJ. -/
import Derived.Test.YtimcafohmahapaaSC
import Derived.Test.YtimcafohmahapaaSA
import Derived.Deep.CutRange
import Derived.WalkMore

-- SgnG
namespace Go.Proofs.Ytimcafohmahapaa.F
open Go Go.RowKit Go.Proofs.YtimcafohmahapaaW.PrintWords Go.Proofs.YtimcafohmahapaaW.PrintLast Go.Proofs.YtimcafohmahapaaW.PrintMore Go.Proofs.YtimcafohmahapaaM Go.Proofs.YtimcafohmahapaaR
attribute [local go_sem] max2_int min2_int max_two min_two
set_option linter.unusedSimpArgs false
set_option linter.unusedVariables false
set_option maxRecDepth 100000
/-- the cells of signatures -/
def sgs (l : List S64) : List Value := l.flatMap fun x => [.int .u32 x.f0, .string x.f1]
theorem sgs_snoc (l : List S64) (x : S64) : sgs (l ++ [x]) = sgs l ++ [.int .u32 x.f0, .string x.f1] := by simp [sgs]
theorem sgs_length (l : List S64) : (sgs l).length = l.length * 2 := by
  induction l with
  | nil => rfl
  | cons x l ih => simp [sgs] at *; omega
theorem sgs_get (l : List S64) (i : Nat) (h : i < l.length) : (sgs l)[i * 2]? = some (.int .u32 (l.getD i z64).f0) ∧ (sgs l)[i * 2 + 1]? = some (.string (l.getD i z64).f1) := by
  induction l generalizing i with
  | nil => simp at h
  | cons x l ih =>
    cases i with
    | zero => exact ⟨rfl, rfl⟩
    | succ i =>
      have := ih i (by simpa using h)
      have e : sgs (x :: l) = .int .u32 x.f0 :: .string x.f1 :: sgs l := rfl
      rw [e, Nat.add_mul]
      exact ⟨by simpa using this.1, by simpa using this.2⟩
/-- a block's signature -/
def oneS (key b : ByteArray) : S64 := ⟨weak (bytesOf b), strongS key b⟩
def SgR (base : Nat) (L : List S64) (e : Int) : World → Value → Prop := fun w v => ∃ v0, v = .tuple #[v0, .int .i64 e] ∧ w.ownsRow base 64 2 v0 L.length (sgs L)
theorem strs_cell {w : World} {A : Option Addr} {n : Nat} {ss : List ByteArray} (h : Kd.C Kd.string w A n ss) (i : Nat) (hi : i < n) : ∃ ad, A = some ad ∧ w.cell? (ad.add i) = some (.string (ss.getD i ByteArray.empty)) := by
  obtain ⟨ad, hA, hc⟩ := (Kd.reads_of_C (enc := Value.string) (d := ByteArray.empty) (h1 := fun _ => rfl) h).at_ (i : Int) (by omega) (by omega)
  exact ⟨ad, hA, by simpa [rdOf] using hc⟩
theorem infoSg : (Try.prog.info? 64).map (fun i => (i.zero, i.size, i.bytes)) = some (some (.agg #[.int .u32 0, .string ⟨#[]⟩]), 2, 24) := by kernel_rfl
set_option maxHeartbeats 2000000 in
theorem signs_c (w : World) (key t : ByteArray) (size : Int) (k : Nat) (L : List ByteArray) (e : Int) (hf : sign_Blocks.f k t size = some (L, e)) (he : e ≠ 0 → L = []) (hL : L.length ≤ 5000) (hb : ∀ b ∈ L, b.size ≤ 5000) (hk : key.size ≤ 10000000) :
    Calls Try.prog 16 #[.string key, .string t, .int .i64 size] w (Tells w (SgR w.heap.size (L.map (oneS key)) e)) := by
  have H1 := Lib.hid (fun w => sign_Blocks.calls k t size _ _ w hf)
  have HONE := Lib.hid (fun w b (h : b ∈ L) => one_c w key b hk (by have := hb b h; omega))
  obtain ⟨n, hn⟩ : ∃ n, n = L.length := ⟨_, rfl⟩
  have HN := Lib.hid hn.symm
  rw [← hn] at hL
  have HE := Lib.hid he
  have HLn := Lib.hid hL
  clear hf he hb hk hn hL
  go_enter Try.func16, Try.ntmps16
  go_wp2_with fail
  refine (H1.out _).mono ?_
  rintro e1 w1 ⟨v1, rfl, hR1, hg1⟩
  obtain ⟨A1, c1, hv1, hc1, hC1⟩ := Kd.R_reads hR1
  rw [HN.out] at hC1 hc1 hv1
  subst hv1
  have HC1 := Lib.hid hC1
  have Hc1 := Lib.hid hc1
  clear hR1 hC1 hc1
  by_cases h0 : e = 0
  · subst h0
    go_wp2_with fail
    go_loopw [10, 24] (fun ov iv wr => ∃ (pre suf : List ByteArray), iv = .int .i64 (pre.length : Int) ∧ L = pre ++ suf ∧ wr.ownsRow w1.heap.size 64 2 ov (pre.map (oneS key)).length (sgs (pre.map (oneS key))) ∧ Grew w1 wr) (fun _ iv _ => n - (intOf iv).toNat)
    case atStart => exact ⟨[], L, rfl, rfl, World.ownsRow_nil _ _ _ _, Grew.refl _⟩
    case round =>
      obtain ⟨pre, suf, rfl, hp, hown, hgr⟩ := hrel
      have hnn := HN.out
      rw [hp, List.length_append] at hnn
      rcases suf with _ | ⟨b, suf⟩
      · have d1 : decide ((pre.length : Int) < (n : Int)) = false := decide_eq_false (by simp at hnn; omega)
        have d2 : decide (pre.length < n) = false := decide_eq_false (by simp at hnn; omega)
        rw [List.append_nil] at hp
        have HP := Lib.hid hp
        have HO := Lib.hid hown
        clear hp hnn hown
        go_wp2_with fail
        go_ret2
        exact ⟨_, rfl, ⟨_, rfl, by rw [HP.out]; exact own_weaken HO.out hg1.size⟩, Grew.trans hg1 hgr⟩
      · have hlt : pre.length < n := by simp at hnn; omega
        have d1 : decide ((pre.length : Int) < (n : Int)) = true := decide_eq_true (by omega)
        have d2 : decide (pre.length < n) = true := decide_eq_true hlt
        have i1 : (pre.length : Int) < (n : Int) := by omega
        obtain ⟨ad, rfl, hcell⟩ := strs_cell HC1.out pre.length hlt
        have hpi : L.getD pre.length ByteArray.empty = b := by rw [hp]; simp [List.getD]
        rw [hpi] at hcell
        have k1 := pw_cell_below hgr hcell
        have HSE := Lib.hid (fun w => HONE.out w b (by rw [hp]; simp))
        have HP := Lib.hid (show L = (pre ++ [b]) ++ suf from by rw [hp]; simp)
        obtain ⟨x, hx⟩ : ∃ x, x = oneS key b := ⟨_, rfl⟩
        have HX := Lib.hid hx
        have HM := Lib.hid (show sgs (pre.map (oneS key)) ++ [.int .u32 x.f0, .string x.f1] = sgs ((pre ++ [b]).map (oneS key)) from by rw [List.map_append, hx]; exact (sgs_snoc _ _).symm)
        have HL2 := Lib.hid (show (pre.map (oneS key)).length + 1 = ((pre ++ [b]).map (oneS key)).length from by simp)
        have HL3 := Lib.hid (show (pre.map (oneS key)).length ≤ 5000 from by rw [List.length_map]; have := HLn.out; omega)
        have hse : ∀ w, Calls Try.prog 29 #[.string key, .string b] w (Tells w (Is (.agg #[.int .u32 x.f0, .string x.f1]))) := by rw [hx]; exact HSE.out
        have HSE2 := Lib.hid hse
        have hw : IntKind.i64.wrap ((pre.length : Int) + 1) = (pre.length : Int) + 1 := by
          have := HLn.out
          rw [IntWalk.i64_in _ (by omega)]
        have HO := Lib.hid hown
        have HG := Lib.hid hgr
        clear hp hnn hcell hpi hx hse hown hgr
        go_wp2_with fail
        refine (HSE2.out _).mono ?_
        rintro e2 w2 ⟨_, rfl, rfl, hg2⟩
        have hown2 := pw_own_below HO.out hg2
        have hgw2 := Grew.trans HG.out hg2
        clear k1
        go_wp2_with (at_builtin; refine print_append_cells (w0 := w1) w1.heap.size rfl (.tmp 28) (.tmp 32) 36 64 (.agg #[.int .u32 0, .string ⟨#[]⟩]) 2 24 rfl Try.underlying36 infoSg rfl (by decide) (by decide) _ _ _ [.int .u32 x.f0, .string x.f1] rfl rfl rfl (by intro v hv; simp at hv; rcases hv with rfl | rfl <;> rfl) hown2 hgw2 hgw2.size (by have := HL3.out; omega) ?_; intro v1 w4 hown4 hgr4 hgb hat)
        go_roundw
        case rel => exact ⟨pre ++ [b], suf, by simp, HP.out, by rw [← HL2.out, ← HM.out]; exact hown4, hgr4⟩
        case measure => simp [intOf]; omega
  · have d1 : decide (e = 0) = false := decide_eq_false h0
    have e1 : (e != 0) = true := by simpa using h0
    have hnil := HE.out h0
    subst hnil
    go_wp2_with fail
    go_ret2
    exact ⟨_, rfl, ⟨_, rfl, World.ownsRow_nil _ _ _ _⟩, hg1⟩
end Go.Proofs.Ytimcafohmahapaa.F

-- RegB
namespace Go.Proofs.YtimcafohmahapaaR
open Go Go.RowKit
section
variable (P : Program) (Q : Exit → Act → World → Prop) (R Rp : World → World → Prop) (V : Nat → World → Value → Prop) (a0 : Act) (w0 : World) (E : Act → World → Prop)
def PhGoalF (o : Oper) (g : GuardT) (i : Nat) (r : Reads) : Phase → Prop
  | .plain => ∀ a w, R w0 w → Deps V a0 a w r → OpGoal P Q R V o g i a w
  | .float => ∀ a w, (R w0 w ∨ ∃ w1, R w0 w1 ∧ Rp w1 w) → Deps V a0 a w r → OpGoal P Q (fun w w' => w' = w) V o g i a w
  | .big => o.guard = none ∧ ∀ a w, R w0 w → Deps V a0 a w r → ∀ K : Act → World → Prop, (∀ v w', Rp w w' → V i w' v → K (a.put o.dst v) w') → o.wp P a w K Q
def PhHoldF : Nat → List Oper → List (Reads × GuardT) → List Phase → Prop
  | i, o :: os, (r, g) :: rs, k :: ks => PhGoalF P Q R Rp V a0 w0 o g i r k ∧ PhHoldF (i + 1) os rs ks
  | _, _, _, _ => True
end

section
variable {P : Program} {ops : Array Oper} {Q : Exit → Act → World → Prop} {R Rp : World → World → Prop} {V : Nat → World → Value → Prop} {a0 : Act} {w0 : World} {E : Act → World → Prop}
theorem phHold_atF : ∀ (os : List Oper) (rs : List (Reads × GuardT)) (ks : List Phase) (k i : Nat) (o : Oper) (r : Reads) (g : GuardT) (p : Phase), PhHoldF P Q R Rp V a0 w0 k os rs ks → os[i]? = some o → rs[i]? = some (r, g) → ks[i]? = some p →
    PhGoalF P Q R Rp V a0 w0 o g (k + i) r p
  | [], _, _, _, i, o, r, g, p, _, ho, _, _ => by simp at ho
  | o' :: os, [], _, _, i, o, r, g, p, _, _, hr, _ => by simp at hr
  | o' :: os, (r', g') :: rs, [], _, i, o, r, g, p, _, _, _, hk => by simp at hk
  | o' :: os, (r', g') :: rs, p' :: ks, k, 0, o, r, g, p, h, ho, hr, hk => by
    simp at ho hr hk
    obtain ⟨rfl, rfl⟩ := hr
    subst ho
    subst hk
    exact h.1
  | o' :: os, (r', g') :: rs, p' :: ks, k, i + 1, o, r, g, p, h, ho, hr, hk => by
    have := phHold_atF os rs ks (k + 1) i o r g p h.2 (by simpa using ho) (by simpa using hr) (by simpa using hk)
    rw [show k + 1 + i = k + (i + 1) from by omega] at this
    exact this
theorem wpAny_invF {A : List Nat} {reads : List (Reads × GuardT)} {ks : List Phase} (hA : edgesOk ops A = true) (hP : pairsOk ops A = true) (hR : readsOk ops reads a0.tmps.size = true) (hT : tailOk ops A reads.length = true)
    (hrf : ∀ w, R w w) (htr : ∀ a b c, R a b → R b c → R a c) (hK : phaseOk A ks reads.length = true)
    (hst : ∀ i, ks[i]? ≠ some .big → ∀ w w' v, R w w' ∨ Rp w w' → V i w v → V i w' v)
    (hops : PhHoldF P Q R Rp V a0 w0 0 ops.toList reads ks)
    (hend : ∀ listed a w, (∀ j, listed.getD j false = decide (j < reads.length)) → InvB ops reads.length R Rp V ks a0 w0 listed a w → wpList P ops Q (ops.toList.drop reads.length) a w) :
    ∀ (fuel : Nat) (listed : Array Bool) (a : Act) (w : World), listed.toList.count false ≤ fuel → InvB ops reads.length R Rp V ks a0 w0 listed a w → wpAny P .any ops Q fuel listed a w := by
  have hT0 := hT
  simp only [tailOk, Bool.and_eq_true, decide_eq_true_eq, List.all_eq_true, Bool.or_eq_true, List.mem_range] at hT0
  -- when all of the head has come up
  have fin : ∀ (fuel : Nat) (listed : Array Bool) (a : Act) (w : World), listed.toList.count false ≤ fuel → InvB ops reads.length R Rp V ks a0 w0 listed a w → (∀ j, j < reads.length → listed.getD j false = true) → wpAny P .any ops Q fuel listed a w := by
    intro fuel listed a w hf hi hall
    have hl : ∀ j, listed.getD j false = decide (j < reads.length) := by
      intro j
      rcases Nat.lt_or_ge j reads.length with h | h
      · rw [hall j h]; simp [h]
      · rw [hi.tail j h]; simp; omega
    refine wpAny_tail hA hT fuel reads.length listed a w (Nat.le_refl _) ?_ hT0.1 hi.lsize hl (hend listed a w hl hi)
    -- those that are not listed are as many as the tail is long
    have : (listed.toList.drop reads.length).count false = listed.size - reads.length := by
      have h1 : listed.toList.drop reads.length = List.replicate (listed.size - reads.length) false := by
        refine List.ext_getElem (by simp) fun j h1 h2 => ?_
        simp only [List.getElem_drop, List.getElem_replicate]
        have h3 : reads.length + j < listed.size := by simp at h1; omega
        have h4 := hi.tail (reads.length + j) (by omega)
        simpa [h3] using h4
      rw [h1, List.count_replicate_self]
    have h2 : (listed.toList.drop reads.length).count false ≤ listed.toList.count false := List.Sublist.count_le _ (List.drop_sublist _ _)
    have := hi.lsize
    omega
  -- before that, nothing of the tail may come up
  have low : ∀ (listed : Array Bool), listed.size = ops.size → Closed ops listed → ∀ i, i ∈ Region.ready .any ops listed → reads.length ≤ i → ∀ j, j < reads.length → listed.getD j false = true := by
    intro listed hs hc i hi hm j hj
    obtain ⟨hun, o, ho, hd⟩ := mem_ready.1 hi
    have hisz := (Array.getElem?_eq_some_iff.1 ho).1
    exact closed_anc hA hc i o ho hd j ((hT0.2 i hisz).resolve_left (by omega) j (by omega))
  intro fuel
  induction fuel with
  | zero =>
    intro listed a w hf hi
    refine fin 0 listed a w hf hi fun j hj => ?_
    have hjs : j < listed.size := by have := hi.lsize; omega
    cases hl : listed.getD j false with
    | true => rfl
    | false =>
      exfalso
      have hv : listed[j] = false := by simpa [hjs] using hl
      have : 0 < listed.toList.count false := List.count_pos_iff.2 (by rw [← hv]; simp)
      omega
  | succ fuel ih =>
    intro listed a w hf hi
    by_cases hall : ∀ j, j < reads.length → listed.getD j false = true
    · exact fin (fuel + 1) listed a w hf hi hall
    refine ⟨fun h => absurd (fun j hj => all_of_ready rfl hA hi.lsize h j (by omega)) hall, fun i hir => ?_⟩
    have him : i < reads.length := by
      rcases Nat.lt_or_ge i reads.length with h | h
      · exact h
      · exact absurd (low listed hi.lsize hi.closed i hir h) hall
    obtain ⟨hun, o, ho, hdeps⟩ := mem_ready.1 hir
    have hisz : i < ops.size := (Array.getElem?_eq_some_iff.1 ho).1
    have hun' : listed.getD i false = false := by rw [getD_irrel (by rw [hi.lsize]; exact hisz) false true]; exact hun
    simp only [readsOk, List.all_eq_true] at hR
    have hRi := hR i (List.mem_range.2 him)
    have hri : reads[i]? = some (reads[i]'(by omega)) := List.getElem?_eq_getElem (by omega)
    generalize hrg : reads[i]'(by omega) = rg at hri
    obtain ⟨r, g⟩ := rg
    rw [ho, hri] at hRi
    simp only [Bool.and_eq_true, List.all_eq_true] at hRi
    obtain ⟨⟨hr, hdst⟩, hg⟩ := hRi
    -- ancestors of i are listed; descendants are not
    have hanc : ∀ k, (A.getD i 0).testBit k = true → listed.getD k false = true := closed_anc hA hi.closed i o ho hdeps
    have hdesc : ∀ j oj, ops[j]? = some oj → (A.getD j 0).testBit i = true → listed.getD j false = false := by
      intro j oj hoj hb
      cases hl : listed.getD j false with
      | false => rfl
      | true =>
        have := closed_anc hA hi.closed j oj hoj (hi.closed j oj hoj hl) i hb
        rw [this] at hun'; cases hun'
    have pair : ∀ i' j' oi' oj', i' < j' → ops[i']? = some oi' → ops[j']? = some oj' → (A.getD j' 0).testBit i' = true ∨ ((∀ t, oi'.dst = some t → t ∉ names ops oj') ∧ ∀ t, oj'.dst = some t → t ∉ oi'.looksAt ops) := by
      intro i' j' oi' oj' hlt hoi hoj
      have h1 := List.all_eq_true.1 hP j' (List.mem_range.2 (Array.getElem?_eq_some_iff.1 hoj).1)
      simp only [hoj, List.all_eq_true, List.mem_range] at h1
      have h2 := h1 i' hlt
      simp only [hoi, Bool.or_eq_true, Bool.and_eq_true] at h2
      rcases h2 with h2 | ⟨h2, h3⟩
      · exact .inl h2
      · refine .inr ⟨fun t ht => ?_, fun t ht => ?_⟩
        · simp [ht] at h2; exact h2
        · simp [ht] at h3; exact h3
    -- the writers that are listed of what i looks at are those ahead of it
    have hlook : ∀ t ∈ o.looksAt ops, lastW ops (fun j => listed.getD j false) t = lastW ops (fun j => decide (j < i)) t := by
      intro t ht
      refine lastW_congr fun j oj hoj hd => ?_
      rcases Nat.lt_trichotomy j i with hlt | rfl | hgt
      · have := (pair j i oj o hlt hoj ho).resolve_right (fun h => h.1 t hd (List.mem_append_right _ ht))
        simp [hlt, hanc j this]
      · simp [hun']
      · have := (pair i j o oj hgt ho hoj).resolve_right (fun h => h.2 t hd ht)
        rw [hdesc j oj hoj this]
        symm; simp; omega
    have hD : Deps V a0 a w r := by
      refine deps_of a w r fun ⟨t, j⟩ hx => ?_
      have h1 := hr (t, j) hx
      simp only [beq_iff_eq, List.contains_iff_mem] at h1
      have h2 := hi.tmps t
      rw [hlook t h1.1, h1.2] at h2
      cases j <;> exact h2
    simp only [phaseOk, Bool.and_eq_true, beq_iff_eq, List.all_eq_true, List.mem_range] at hK
    have hki : ks[i]? = some (ks[i]'(by omega)) := List.getElem?_eq_getElem (by omega)
    generalize hkk : ks[i]'(by omega) = kd at hki
    have hgoal := phHold_atF ops.toList reads ks 0 i o r g kd hops (by simpa using ho) hri hki
    rw [Nat.zero_add] at hgoal
    have big_all : ∀ p, ks[p]? = some .big → ∀ j, j < reads.length → j ≠ p → ks[j]? = some .float ∨ (A.getD p 0).testBit j = true := by
      intro p hp j hj hne
      have hpl : p < reads.length := by
        have := (List.getElem?_eq_some_iff.1 hp).1
        omega
      have := hK.2 p hpl
      rw [hp] at this
      simp only [List.all_eq_true, List.mem_range, Bool.or_eq_true, beq_iff_eq] at this
      rcases this j hj with (h | h) | h
      · exact absurd h hne
      · exact .inl h
      · exact .inr h
    have noBig : kd ≠ .float → ¬ BigIn ks listed := by
      rintro hne ⟨p, hp, hl⟩
      by_cases hip : i = p
      · subst hip; rw [hun'] at hl; cases hl
      · rcases big_all p hp i him hip with h | h
        · rw [hki] at h; exact hne (Option.some.inj h)
        · have hpo : p < ops.size := by
            rcases Nat.lt_or_ge p ops.size with h' | h'
            · exact h'
            · rw [show listed.getD p false = false from by simp [Array.getElem?_eq_none (show listed.size ≤ p by rw [hi.lsize]; exact h')]] at hl; cases hl
          have := closed_anc hA hi.closed p _ (Array.getElem?_eq_getElem hpo) (hi.closed p _ (Array.getElem?_eq_getElem hpo) hl) i h
          rw [this] at hun'; cases hun'
    have bigSet : ∀ {k : Phase}, kd = k → k ≠ .big → (BigIn ks (listed.setIfInBounds i true) ↔ BigIn ks listed) := by
      intro k hk hne
      constructor
      · rintro ⟨p, hp, hl⟩
        by_cases hip : i = p
        · subst hip; rw [hki] at hp; exact absurd (hk.symm.trans (Option.some.inj hp)) hne
        · rw [getD_set_other _ hip] at hl; exact ⟨p, hp, hl⟩
      · rintro ⟨p, hp, hl⟩
        by_cases hip : i = p
        · subst hip; rw [hun'] at hl; cases hl
        · exact ⟨p, hp, by rw [getD_set_other _ hip]; exact hl⟩
    have notBig : ∀ j, listed.getD j false = true → ¬ BigIn ks listed → ks[j]? ≠ some .big := fun j hl hb h => hb ⟨j, h, hl⟩
    -- behind operation i
    have next : ∀ v w', (∀ j, j ≠ i → listed.getD j false = true → ∀ u, V j w u → V j w' u) → (¬ BigIn ks (listed.setIfInBounds i true) → R w0 w') → (BigIn ks (listed.setIfInBounds i true) → ∃ w1, R w0 w1 ∧ Rp w1 w') → V i w' v → wpAny P .any ops Q fuel (listed.setIfInBounds i true) (a.put o.dst v) w' := by
      intro v w' hww he hl hv
      refine ih _ _ _ (unlisted_set hun fuel hf) ⟨he, hl, ?_, ?_, by simp [hi.lsize], ?_, fun j hj => ?_, ?_⟩
      · cases hd : o.dst <;> simp [Act.put, hi.size]
      · cases hd : o.dst <;> simp [Act.put, hi.defers]
      · intro j oj hoj hl e he hb
        by_cases hji : i = j
        · subst hji
          rw [ho] at hoj
          obtain rfl := Option.some.inj hoj
          by_cases hei : i = e.on
          · rw [← hei]; exact getD_set_self (by rw [hi.lsize]; exact hisz) _
          · rw [getD_set_other _ hei]; exact hdeps e he hb
        · rw [getD_set_other _ hji] at hl
          by_cases hei : i = e.on
          · rw [← hei]; exact getD_set_self (by rw [hi.lsize]; exact hisz) _
          · rw [getD_set_other _ hei]; exact hi.closed j oj hoj hl e he hb
      · rw [getD_set_other _ (by omega)]; exact hi.tail j hj
      · intro t
        by_cases hd : o.dst = some t
        · rw [lastW_set ho hd (p := fun j => (listed.setIfInBounds i true).getD j false) (getD_set_self (by rw [hi.lsize]; exact hisz) _) (fun j oj hoj hdj hlt => by
            have := (pair i j o oj hlt ho hoj).resolve_right (fun h => h.1 t hd (by simp [names, hdj]))
            rw [getD_set_other _ (by omega)]
            exact hdesc j oj hoj this)]
          have htn : t < a.tmps.size := by rw [hi.size]; simpa [hd] using hdst
          simp only [hd, Act.put]
          simpa [htn] using hv
        · rw [lastW_congr (q := fun j => listed.getD j false) (fun j oj hoj hdj => by
            by_cases hji : i = j
            · subst hji; rw [ho] at hoj; obtain rfl := Option.some.inj hoj; exact absurd hdj hd
            · exact getD_set_other _ hji)]
          have h2 := hi.tmps t
          have same : (a.put o.dst v).tmps[t]?.getD undef = a.tmps[t]?.getD undef := by
            cases hdd : o.dst with
            | none => rfl
            | some d =>
              have hne : d ≠ t := fun e => hd (by rw [hdd, e])
              simp [Act.put, Array.getElem?_setIfInBounds_ne hne]
          rw [same]
          revert h2
          cases hlw : lastW ops (fun j => listed.getD j false) t with
          | none => exact id
          | some j =>
            have hlj := lastW_listed hlw
            refine hww j ?_ hlj _
            intro e
            subst e
            rw [hun'] at hlj
            cases hlj
    unfold wpOp
    simp only [ho]
    cases kd with
    | big =>
      obtain ⟨hgn, hgoal⟩ := hgoal
      have hnb := noBig (by simp)
      rw [if_pos (by simp [Region.wanted, hgn])]
      refine .inl (hgoal a w (hi.early hnb) hD _ fun v w' hrp hv => ?_)
      have hbig : BigIn ks (listed.setIfInBounds i true) := ⟨i, hki, getD_set_self (by rw [hi.lsize]; exact hisz) _⟩
      exact next v w' (fun j _ hl u hu => hst j (notBig j hl hnb) w w' u (.inr hrp) hu) (fun h => absurd hbig h) (fun _ => ⟨w, hi.early hnb, hrp⟩) hv
    | plain =>
      have hnb := noBig (by simp)
      have hgoal := hgoal a w (hi.early hnb) hD
      have hs := bigSet rfl (by simp)
      have nx : ∀ v w', R w w' → V i w' v → wpAny P .any ops Q fuel (listed.setIfInBounds i true) (a.put o.dst v) w' := fun v w' hr hv =>
        next v w' (fun j _ hl u hu => hst j (notBig j hl hnb) w w' u (.inl hr) hu) (fun _ => htr _ _ _ (hi.early hnb) hr) (fun h => absurd (hs.1 h) hnb) hv
      cases hgg : o.guard with
      | none =>
        rw [hgg] at hg
        cases g with
        | some _ => simp at hg
        | none =>
          rw [if_pos (by simp [Region.wanted, hgg])]
          exact .inl (hgoal _ nx)
      | some kw =>
        obtain ⟨k, want⟩ := kw
        rw [hgg] at hg
        cases g with
        | none => simp at hg
        | some tw =>
          obtain ⟨t, want'⟩ := tw
          simp only [Bool.and_eq_true, beq_iff_eq] at hg
          obtain ⟨rfl, hk⟩ := hg
          have hw := wanted_iff (a := a) hgg hk
          by_cases hv : a.tmps[t]?.getD undef = .bool want
          · rw [if_pos (hw.2 hv)]
            exact .inl (hgoal.1 hv _ nx)
          · rw [if_neg (fun h => hv (hw.1 h))]
            exact nx undef w (hrf w) (hgoal.2 hv)
    | float =>
      have hgoal := hgoal a w (by
        by_cases hbi : BigIn ks listed
        · exact .inr (hi.late hbi)
        · exact .inl (hi.early hbi)) hD
      have hs := bigSet rfl (by simp)
      have nx : ∀ v w', w' = w → V i w' v → wpAny P .any ops Q fuel (listed.setIfInBounds i true) (a.put o.dst v) w' := fun v w' hr hv => by
        subst hr
        exact next v w' (fun j _ _ u hu => hu) (fun h => hi.early (fun hb => h (hs.2 hb))) (fun h => hi.late (hs.1 h)) hv
      cases hgg : o.guard with
      | none =>
        rw [hgg] at hg
        cases g with
        | some _ => simp at hg
        | none =>
          rw [if_pos (by simp [Region.wanted, hgg])]
          exact .inl (hgoal _ nx)
      | some kw =>
        obtain ⟨k, want⟩ := kw
        rw [hgg] at hg
        cases g with
        | none => simp at hg
        | some tw =>
          obtain ⟨t, want'⟩ := tw
          simp only [Bool.and_eq_true, beq_iff_eq] at hg
          obtain ⟨rfl, hk⟩ := hg
          have hw := wanted_iff (a := a) hgg hk
          by_cases hv : a.tmps[t]?.getD undef = .bool want
          · rw [if_pos (hw.2 hv)]
            exact .inl (hgoal.1 hv _ nx)
          · rw [if_neg (fun h => hv (hw.1 h))]
            exact nx undef w rfl (hgoal.2 hv)
end

section
variable {P : Program} {Q : Exit → Act → World → Prop} {V : Nat → World → Value → Prop} {a0 : Act} {w0 : World} {E : Act → World → Prop}
theorem wp_region_bigF {id : Nat} {n : Nat} (ks : List Phase) (V : Nat → World → Value → Prop) (R Rp : World → World → Prop) (reads : List (Reads × GuardT)) (fin : List (Tmp × Nat)) {l : List Oper} (tail : List Oper) (hn : a0.tmps.size = n) (hk : regionOk l.toArray reads fin n = true) (hd : l.drop reads.length = tail) (hm : P.follows .mixedOrders = true)
    (hrf : ∀ w, R w w) (htr : ∀ a b c, R a b → R b c → R a c) (hK : phaseOk (mkAnc l) ks reads.length = true) (hb : ks.contains .big = true)
    (hst : ∀ i, ks[i]? ≠ some .big → ∀ w w' v, R w w' ∨ Rp w w' → V i w v → V i w' v)
    (hops : PhHoldF P Q R Rp V a0 w0.drew 0 l reads ks)
    (hend : EndHold (fun w w' => ∃ w1, R w w1 ∧ Rp w1 w') V w0.drew (wpList P l.toArray Q tail) (fun _ => True) fin a0) :
    (Code.region id l.toArray true).wp P Q a0 w0 := by
  subst hn
  subst hd
  simp only [regionOk, Bool.and_eq_true] at hk
  obtain ⟨⟨⟨⟨hA, hP⟩, hR⟩, hF⟩, hT⟩ := hk
  refine wp_region_any hm ?_
  refine wpAny_invF (Rp := Rp) (ks := ks) (w0 := w0.drew) hA hP hR hT hrf htr hK hst hops ?_ _ _ _ _ (Nat.le_trans List.count_le_length (by simp)) ⟨fun _ => hrf _, ?_, rfl, rfl, by simp, ?_, ?_, ?_⟩
  · intro listed a w hl hi
    simp only [finalOk, Bool.and_eq_true, List.all_eq_true, beq_iff_eq] at hF
    have hF2 : ∀ (j : Nat) (o : Oper) (t : Tmp), l.toArray[j]? = some o → j < reads.length → o.dst = some t → t ∈ fin.map (·.1) := by
      intro j o t ho hj hd
      have := hF.2 o (by
        have h1 : (l.take reads.length)[j]? = some o := by rw [List.getElem?_take_of_lt hj]; simpa using ho
        exact List.mem_of_getElem? h1)
      rw [hd] at this
      simpa using this
    have hlast : ∀ t, lastW l.toArray (fun j => listed.getD j false) t = lastW l.toArray (fun j => decide (j < reads.length)) t := fun t =>
      lastW_congr fun j o ho _ => hl j
    have e : fin.foldl (fun a' x => a'.put (some x.1) ((fun t => a.tmps[t]?.getD undef) x.1)) a0 = a := by
      have h := foldl_put (fun t => a.tmps[t]?.getD undef) fin a0
      have hd : (fin.foldl (fun a' x => a'.put (some x.1) ((fun t => a.tmps[t]?.getD undef) x.1)) a0).defers = a.defers := h.2.1.trans hi.defers.symm
      have ht : (fin.foldl (fun a' x => a'.put (some x.1) ((fun t => a.tmps[t]?.getD undef) x.1)) a0).tmps = a.tmps := by
        refine Array.ext_getElem? fun t => ?_
        rcases Nat.lt_or_ge t a0.tmps.size with hlt | hge
        · rw [h.2.2 t hlt]
          have hat : a.tmps[t]? = some (a.tmps[t]?.getD undef) := by
            have : t < a.tmps.size := by rw [hi.size]; exact hlt
            simp [this]
          by_cases hm : t ∈ fin.map (·.1)
          · rw [if_pos hm]; exact hat.symm
          · rw [if_neg hm]
            have h2 := hi.tmps t
            have hnone : lastW l.toArray (fun j => listed.getD j false) t = none := by
              unfold lastW
              rw [List.find?_eq_none]
              intro j _
              cases ho : l.toArray[j]? with
              | none => simp
              | some o =>
                by_cases hdo : o.dst = some t
                · rcases Nat.lt_or_ge j reads.length with hj | hj
                  · exact absurd (hF2 j o t ho hj hdo) hm
                  · simp only [hi.tail j hj]; simp
                · simp [hdo]
            rw [hnone] at h2
            rw [hat, h2]
            simp [hlt]
        · rw [Array.getElem?_eq_none (by rw [h.1]; exact hge), Array.getElem?_eq_none (by rw [hi.size]; exact hge)]
      generalize fin.foldl (fun a' x => a'.put (some x.1) ((fun t => a.tmps[t]?.getD undef) x.1)) a0 = z at hd ht
      cases z; cases a; simp_all
    have hbin : BigIn ks listed := by
      have hmem := List.contains_iff_mem.1 hb
      obtain ⟨p, hp⟩ := List.mem_iff_getElem?.1 hmem
      refine ⟨p, hp, ?_⟩
      rw [hl p]
      have h1 := (List.getElem?_eq_some_iff.1 hp).1
      have h2 := hK
      simp only [phaseOk, Bool.and_eq_true, beq_iff_eq] at h2
      simp; omega
    have := endHold_at (fun t => a.tmps[t]?.getD undef) w (hi.late hbin) fin _ a0 hend trivial (fun x hx => by
      have h1 := hF.1 x hx
      have h2 := hi.tmps x.1
      rw [hlast, h1] at h2
      exact h2)
    rw [e] at this
    exact this
  · rintro ⟨p, _, hp⟩
    exfalso
    rcases Nat.lt_or_ge p l.length with h | h
    · simp [h] at hp
    · simp [h] at hp
  · intro j o ho hl
    exfalso
    have hj : j < l.length := by simpa using (Array.getElem?_eq_some_iff.1 ho).1
    simp [hj] at hl
  · intro j _
    rcases Nat.lt_or_ge j l.length with h | h
    · simp [h]
    · simp [h]
  · intro t
    have : lastW l.toArray (fun j => (Array.replicate l.toArray.size false).getD j false) t = none := by
      unfold lastW
      rw [List.find?_eq_none]
      intro j hj
      have hj : j < l.length := by simpa using hj
      simp [hj]
    rw [this]


end

theorem region_bigF {P : Program} {Q : Exit → Act → World → Prop} {a0 : Act} {w0 : World} {id : Nat} {n : Nat} {l : List Oper} (Rp : World → World → Prop) (ks : List Phase) (Vs : List (World → Value → Prop)) (reads : List (Reads × GuardT)) (fin : List (Tmp × Nat))
    (hn : a0.tmps.size = n) (hk : regionOk l.toArray reads fin n = true) (hK : phaseOk (mkAnc l) ks reads.length = true) (hb : ks.contains .big = true) (hm : P.follows .mixedOrders = true) (hv : ks.length = Vs.length)
    (hst : StableB Grew Rp ks Vs)
    (hops : PhHoldF P Q Grew Rp (at_ Vs) a0 w0.drew 0 l reads ks)
    (hend : EndHold (fun w w' => ∃ w1, Grew w w1 ∧ Rp w1 w') (at_ Vs) w0.drew (Later (wpList P l.toArray Q (dropN reads l))) (fun _ => True) fin a0) :
    (Code.region id l.toArray true).wp P Q a0 w0 :=
  wp_region_bigF ks (at_ Vs) Grew Rp reads fin _ hn hk (dropN_eq reads l) hm Grew.refl (fun _ _ _ => Grew.trans) hK hb (stableB_at ks Vs hv hst) hops (endHold_later _ _ _ hend)
end Go.Proofs.YtimcafohmahapaaR

-- SgnI
namespace Go.Proofs.Ytimcafohmahapaa.F
open Go Go.RowKit Go.Proofs.YtimcafohmahapaaW.PrintWords Go.Proofs.YtimcafohmahapaaW.PrintLast Go.Proofs.YtimcafohmahapaaW.PrintMore Go.Proofs.YtimcafohmahapaaM Go.Proofs.YtimcafohmahapaaR
open Go.Maps (Keyed)
open Go.ChangeShapes
attribute [local go_sem] max2_int min2_int max_two min_two
set_option linter.unusedSimpArgs false
set_option linter.unusedVariables false
set_option maxRecDepth 100000
/-- a row of one's own of signatures is read -/
theorem sg_reps (w : World) : ∀ l : List S64, Reps (k64.K w) 2 l (sgs l) := by
  intro l
  refine ⟨sgs_length l, fun j p hj => ?_⟩
  have hlt := (List.getElem?_eq_some_iff.1 hj).1
  obtain ⟨h1, h2⟩ := sgs_get l j hlt
  have hp : l.getD j z64 = p := by rw [List.getD, hj]; rfl
  rw [hp] at h1 h2
  have : (List.take 2 (List.drop (j * 2) (sgs l))) = [.int .u32 p.f0, .string p.f1] := by
    apply List.ext_getElem?
    intro i
    rcases i with _ | _ | i
    · simpa using h1
    · simpa using h2
    · simp; omega
  rw [this]
  exact k64_mk w p
theorem sg_C {w : World} {base n : Nat} {v : Value} {l : List S64} (h : w.ownsRow base 64 2 v n (sgs l)) (hn : l.length = n) : ∃ A c, v = .slice A n c ∧ n ≤ c ∧ Kd.C k64 w A n l := by
  obtain ⟨A, c, rfl, hr⟩ := own_reads_row h (sg_reps w l) hn
  exact ⟨A, c, rfl, own_le h, hr⟩
/-- where the signatures of a weak sum stand -/
def posns (L : List S64) (n : Int) : List Int := ((List.range L.length).filter fun i => decide ((L.getD i z64).f0 = n)).map fun i : Nat => (i : Int)
theorem posns_snoc (L : List S64) (x : S64) (n : Int) : posns (L ++ [x]) n = posns L n ++ (if x.f0 = n then [(L.length : Int)] else []) := by
  unfold posns
  rw [List.length_append, List.length_singleton, List.range_succ, List.filter_append, List.map_append]
  congr 1
  · congr 1
    apply List.filter_congr
    intro i hi
    rw [List.mem_range] at hi
    rw [show (L ++ [x]).getD i z64 = L.getD i z64 from by simp [List.getD, List.getElem?_append_left hi]]
  · by_cases h : x.f0 = n <;> simp [List.getD, h]
/-- the map as it reads: at each weak sum the places of those -/
def GD (D : DataW Unit) (L : List S64) : Prop := Maps.IsMap D ∧ ∀ n : Int, (D.atKey (.int .u32 n) .nil = .nil ∧ posns L n = []) ∨ D.atKey (.int .u32 n) .nil = .slice (lits .i64 (posns L n)) []
theorem GD.nil : GD (.map []) [] := ⟨Maps.isMap_empty, fun n => .inl ⟨rfl, rfl⟩⟩
theorem lits_inj {q : IntKind} {a b : List Int} (h : (lits (H := Unit) q a) = lits q b) : a = b := by
  unfold lits at h
  exact (List.map_inj_right (fun x y hxy => by simpa using hxy)).1 h
theorem GD.at_ {D : DataW Unit} {L : List S64} {w : World} {base : Nat} {e : TypeId} {v : Value} {zs : List Int} {n : Int} (h : GD D L) (hat : D.atKey (.int .u32 n) .nil = rowDatum .i64 v zs) (ho : w.ownsInts base e .i64 v zs) : zs = posns L n := by
  rcases h.2 n with ⟨h1, h2⟩ | h1
  · rw [h2]
    rcases ho.datum (H := Unit) with ⟨h3, h4⟩ | h3
    · exact h4
    · rw [hat, h3] at h1; cases h1
  · rcases ho.datum (H := Unit) with ⟨h3, h4⟩ | h3
    · rw [hat, h3] at h1; cases h1
    · rw [hat, h3] at h1
      have := lits_inj (DataW.slice.inj h1).1
      exact this
theorem GD.put {D : DataW Unit} {L : List S64} (h : GD D L) (x : S64) : GD (D.put (.int .u32 x.f0) (.slice (lits .i64 (posns L x.f0 ++ [(L.length : Int)])) [])) (L ++ [x]) := by
  refine ⟨h.1.put _ _, fun n => ?_⟩
  rw [posns_snoc]
  by_cases hn : x.f0 = n
  · subst hn
    right
    rw [Maps.atKey_put_same h.1 (show WideAt.IsKeyLit (.int .u32 x.f0) from trivial), if_pos rfl]
  · rw [Maps.atKey_put_other (fun e => hn (by simpa using e.symm)), if_neg hn, List.append_nil]
    exact h.2 n
theorem zeroG (w : World) : (zeroValue 79).run Try.prog w = .ok (.slice none 0 0) w := by kernel_rfl
theorem keyG : Keyed Try.prog 62 := Maps.int_keyed Try.underlying62
theorem infoI : (Try.prog.info? 3).map (fun i => (i.zero, i.size, i.bytes)) = some (some (.int .i64 0), 1, 8) := by kernel_rfl
/-- an index in memory: all its blocks lie from B on; L: its row, G: what its map was made of -/
structure Idx (B p : Nat) (L G : List S64) (lv : Value) (b base : Nat) (D : DataW Unit) (w : World) : Prop where
  cells : Blk w p 78 [lv, .map (some b)]
  row : w.ownsRow B 64 2 lv L.length (sgs L)
  grp : w.ownsGroups Try.prog 62 base 3 .i64 b G.length D
  shun : w.Shuns b (fun g => lv.ownBlock = some g)
  reads : GD D G
  hp : B ≤ p
  hb : B ≤ b
theorem Idx.upd {B p : Nat} {L G : List S64} {lv : Value} {b base : Nat} {D : DataW Unit} {w w' : World} {S : Nat → Prop} (h : Idx B p L G lv b base D w) (hu : Upd S w w') (hS : ∀ k, B ≤ k → ¬ S k) : Idx B p L G lv b base D w' := by
  have hg := groups_lt h.grp
  have hb := h.hb
  exact ⟨h.cells.upd hu (hS p h.hp), hu.own h.row (fun k hk => hS k (own_base h.row k hk)), groups_upd h.grp hu (hS b hb) (fun g hg2 => hS g (by omega)), shuns_move h.shun (hu.block b hg.1 (hS b hb)), h.reads, h.hp, h.hb⟩
theorem Idx.grew {B p : Nat} {L G : List S64} {lv : Value} {b base : Nat} {D : DataW Unit} {w w' : World} (h : Idx B p L G lv b base D w) (hu : Grew w w') : Idx B p L G lv b base D w' := h.upd (Upd.of_grew (S := fun _ => False) hu) fun _ _ h => h
theorem Idx.mapAt {B p : Nat} {L G : List S64} {lv : Value} {b base : Nat} {D : DataW Unit} {w : World} (h : Idx B p L G lv b base D w) : ∃ es clock, w.heap[b]? = some (.map es clock) := by
  obtain ⟨es, clock, hb, _⟩ := h.grp
  exact ⟨es, clock, hb⟩
theorem Idx.ne {B p : Nat} {L G : List S64} {lv : Value} {b base : Nat} {D : DataW Unit} {w : World} (h : Idx B p L G lv b base D w) : p ≠ b ∧ lv.ownBlock ≠ some b ∧ lv.ownBlock ≠ some p := by
  obtain ⟨es, clock, hb⟩ := h.mapAt
  refine ⟨fun e => ?_, fun e => ?_, fun e => own_ne h.row h.cells (by decide) e.symm⟩
  · have := h.cells
    unfold Blk at this
    rw [e, hb] at this
    cases this
  · obtain ⟨cur, hc⟩ := own_cells h.row e
    rw [hb] at hc
    cases hc
/-- behind an append to its row -/
theorem Idx.app {B p : Nat} {L G : List S64} {lv v1 : Value} {b base : Nat} {D : DataW Unit} {w w' : World} {x : S64} (h : Idx B p L G lv b base D w) (hu : Upd (fun k => lv.ownBlock = some k) w w')
    (hrow : w'.ownsRow B 64 2 v1 (L.length + 1) (sgs L ++ [.int .u32 x.f0, .string x.f1])) (hat : v1.ownBlock = lv.ownBlock ∨ ∃ k, v1.ownBlock = some k ∧ w.heap.size ≤ k) :
    Idx B p (L ++ [x]) G v1 b base D (w'.setCell ⟨p, 0, none⟩ v1) := by
  obtain ⟨n1, n2, n3⟩ := h.ne
  have hg := groups_lt h.grp
  have hc := h.cells.upd hu n3
  have hrow' : w'.ownsRow B 64 2 v1 (L ++ [x]).length (sgs (L ++ [x])) := by rw [sgs_snoc, List.length_append]; exact hrow
  have hset : Upd (fun k => k = p) w' (w'.setCell ⟨p, 0, none⟩ v1) := Upd.set (S := fun k => k = p) (p := ⟨p, 0, none⟩) (Upd.refl _ _) (.inl rfl) _
  have hgr : w'.ownsGroups Try.prog 62 base 3 .i64 b G.length D := groups_move h.grp (hu.block b hg.1 n2) fun g hg1 hg2 _ hex => hu.block g hg2 (by
    obtain ⟨es, clock, hb⟩ := h.mapAt
    obtain ⟨y, hy, hyg⟩ := hex es clock hb
    exact h.shun es clock hb y hy g hyg)
  have hb' : (w'.setCell ⟨p, 0, none⟩ v1).heap[b]? = w'.heap[b]? := hset.block b (Nat.lt_of_lt_of_le hg.1 hu.size) (fun e => n1 e.symm)
  refine ⟨?_, hset.own hrow' (fun k hk e => own_ne hrow' hc (by decide) (by rw [← e, hk])), groups_move hgr hb' (fun g hg1 hg2 hcells _ => hset.block g hg2 fun e => ?_), ?_, h.reads, h.hp, h.hb⟩
  · have := hc.set 0 v1
    simpa using this
  · obtain ⟨cur, hcu⟩ := hcells
    unfold Blk at hc
    rw [e, hc] at hcu
    simp at hcu
  · refine shuns_move ?_ hb'
    refine shuns_move (w := w) ?_ (hu.block b hg.1 n2)
    rcases hat with hat | ⟨k, hk, hk2⟩
    · rw [hat]; exact h.shun
    · refine h.shun.reno h.grp fun g hg3 => .inr ?_
      rw [hk] at hg3
      obtain rfl := Option.some.inj hg3
      exact hk2
/-- behind a place that is laid to the others of its weak sum -/
theorem Idx.put {B p : Nat} {L G : List S64} {lv v v' : Value} {b base : Nat} {D : DataW Unit} {w w1 : World} {zs : List Int} {x : S64} (h : Idx B p L G lv b base D w) (hn : G.length < 9223372036854775807) (hwf : (Lit.int .u32 x.f0).wf = true)
    (hat : D.atKey (.int .u32 x.f0) .nil = rowDatum .i64 v zs) (hoi : w.ownsInts base 3 .i64 v zs) (hzl : zs.length ≤ G.length) (hback : w.groupBack Try.prog 76 62 base 3 .i64 b G.length D (.int .u32 x.f0) (.int .u32 x.f0) v)
    (hgr : w.grownBy w1 v.ownBlock) (hown : w1.ownsRow base 3 1 v' (zs.length + 1) (zs.map (Value.int .i64) ++ [.int .i64 (G.length : Int)])) (hloc : v'.ownBlock = v.ownBlock ∨ ∃ k, v'.ownBlock = some k ∧ w.heap.size ≤ k) :
    ∃ w2 D', (Instr.mapUpdate 76 (.map (some b)) (.int .u32 x.f0) v').run Try.prog w1 = .ok () w2 ∧ Idx B p L (G ++ [x]) lv b base D' w2 ∧ Upd (fun k => B ≤ k) w w2 := by
  have hoi' := hoi.appended hown (WalkArith.wf_i64 (by omega))
  obtain ⟨w2, hrun, hgrp, hg2⟩ := hback w1 v' _ hgr hoi' (by simp; omega) hloc
  obtain ⟨n1, n2, n3⟩ := h.ne
  have hgl := groups_lt h.grp
  have hb := h.hb
  have hzs := h.reads.at_ hat hoi
  have hu1 : Upd (fun k => v.ownBlock = some k) w w1 := Upd.of_grown hgr
  have hu2 : Upd (fun k => k = b) w1 w2 := (Upd.of_grown hg2).mono fun k _ h => (Option.some.inj h).symm
  have t1 := own_ne hoi.1 h.cells (by decide)
  have t2 := own_type_ne h.row hoi.1 (by decide)
  have hkey : keyOf Try.prog 62 (.int .u32 x.f0) = some (.int .u32 x.f0) := Maps.keyOf_int_mk Try.underlying62 hwf
  have hrow1 := hu1.own h.row (fun k hk hk2 => by
    rcases t2 with t2 | t2
    · rw [t2] at hk; cases hk
    · exact t2 (hk.trans hk2.symm))
  refine ⟨w2, D.put (.int .u32 x.f0) (rowDatum .i64 v' (zs ++ [(G.length : Int)])), hrun, ⟨(h.cells.upd hu1 (fun e => t1 e.symm)).upd hu2 n1, hu2.own hrow1 (fun k hk e => n2 (by rw [hk, e])), ?_, ?_, ?_, h.hp, h.hb⟩, ?_⟩
  · rw [List.length_append]; exact hgrp
  · have t3 := own_type_ne hown (w := w1) hrow1 (by decide)
    refine back_shuns keyG Try.underlying76 hkey h.grp (by unfold maxLen; omega) hoi h.shun (fun g hg hg3 => ?_) hgr hrun
    rcases t3 with t3 | t3
    · rw [t3] at hg; cases hg
    · exact t3 (hg.trans hg3.symm)
  · rw [hoi'.datum_pos (by simp), hzs]
    exact h.reads.put x
  · refine (hu1.mono fun k _ hk => ?_).trans (hu2.mono fun k _ hk => by rw [hk]; exact hb)
    have := (hoi.1.lt k hk).1
    omega
def IdxV (B : Nat) (L : List S64) : World → Value → Prop := fun w v => ∃ p lv b base D, v = .pointer (some ⟨p, 0, none⟩) ∧ Idx B p L L lv b base D w
end Go.Proofs.Ytimcafohmahapaa.F

-- SgnF
namespace Go.Proofs.Ytimcafohmahapaa.F
open Go Go.RowKit Go.Proofs.YtimcafohmahapaaW.PrintWords Go.Proofs.YtimcafohmahapaaW.PrintLast Go.Proofs.YtimcafohmahapaaW.PrintMore Go.Proofs.YtimcafohmahapaaM Go.Proofs.YtimcafohmahapaaR
open Go.Maps (Keyed)
open Go.ChangeShapes
attribute [local go_sem] max2_int min2_int max_two min_two
set_option linter.unusedSimpArgs false
set_option linter.unusedVariables false
set_option maxRecDepth 100000
theorem toList_beq (a b : ByteArray) : (a.toList == b.toList) = decide (a = b) := by
  rw [Bool.eq_iff_iff]
  simp only [beq_iff_eq, decide_eq_true_eq]
  constructor
  · intro h
    rw [ByteArray.toList_eq, ByteArray.toList_eq] at h
    apply ByteArray.ext
    exact Array.toList_inj.1 h
  · rintro rfl; rfl
/-- the first of some places that has this strong sum -/
def findP (L : List S64) (s : ByteArray) : List Int → Int × Bool
  | [] => (0, false)
  | i :: zs => if (L.getD i.toNat z64).f1 = s then (i, true) else findP L s zs
theorem posns_mem {L : List S64} {n i : Int} (h : i ∈ posns L n) : ∃ j : Nat, i = (j : Int) ∧ j < L.length ∧ (L.getD j z64).f0 = n := by
  unfold posns at h
  obtain ⟨j, hj, rfl⟩ := List.mem_map.1 h
  rw [List.mem_filter, List.mem_range] at hj
  exact ⟨j, rfl, hj.1, of_decide_eq_true hj.2⟩
set_option maxHeartbeats 2000000 in
theorem ifind_c (w : World) (B p : Nat) (L : List S64) (lv : Value) (b base : Nat) (D : DataW Unit) (h : Idx B p L L lv b base D w) (s : S64) (hwf : (Lit.int .u32 s.f0).wf = true) (hn : L.length ≤ 100000) :
    Calls Try.prog 33 #[.pointer (some ⟨p, 0, none⟩), .agg #[.int .u32 s.f0, .string s.f1]] w (Tells w (Is (.tuple #[.int .i64 (findP L s.f1 (posns L s.f0)).1, .bool (findP L s.f1 (posns L s.f0)).2]))) := by
  obtain ⟨W, hW⟩ : ∃ W, W = w.alloc (.cells #[.int .u32 s.f0, .string s.f1] 64) := ⟨_, rfl⟩
  obtain ⟨g, hg⟩ : ∃ g, g = w.heap.size := ⟨_, rfl⟩
  have hbl : Blk W g 64 [.int .u32 s.f0, .string s.f1] := by rw [hW, hg]; exact Blk.new w _ _
  have hgw : Grew w W := by rw [hW]; exact Grew.alloc _ _
  have hI := h.grew hgw
  obtain ⟨v, zs, hlk, hdat, hoi, hzl, hback, hsh⟩ := groups_at hI.grp keyG Try.underlying76 zeroG (by unfold maxLen; omega) (Maps.keyOf_int_mk Try.underlying62 hwf)
  have hzs := hI.reads.at_ hdat hoi
  obtain ⟨Av, cv, rfl⟩ := own_slice hoi.1
  obtain ⟨Al, cl, rfl, hcl, hCl⟩ := sg_C hI.row rfl
  obtain ⟨nz, hnz⟩ : ∃ nz, nz = zs.length := ⟨_, rfl⟩
  obtain ⟨nl, hnl⟩ : ∃ nl, nl = L.length := ⟨_, rfl⟩
  rw [← hnz] at hoi hlk hzl
  rw [← hnl] at hCl hcl hI hzl hn
  have hmlt := groups_lt hI.grp
  have HMEM := Lib.hid (show ∀ i ∈ zs, ∃ j : Nat, i = (j : Int) ∧ j < nl from fun i hi => by
    rw [hzs] at hi
    obtain ⟨j, h1, h2, _⟩ := posns_mem hi
    exact ⟨j, h1, by omega⟩)
  have CL := Lib.hid (show ∀ wx, Grew W wx → wx.cell? ⟨p, 0, none⟩ = some (.slice Al nl cl) from fun wx h => by rw [(hI.cells.grew h).at_]; rfl)
  have CM := Lib.hid (show ∀ wx, Grew W wx → wx.cell? ⟨p, 1, none⟩ = some (.map (some b)) from fun wx h => by rw [(hI.cells.grew h).at_]; rfl)
  have CB := Lib.hid (show ∀ wx, Grew W wx → wx.cell? ⟨g, 0, none⟩ = some (.int .u32 s.f0) ∧ wx.cell? ⟨g, 1, none⟩ = some (.string s.f1) from fun wx h => ⟨by rw [(hbl.grew h).at_]; rfl, by rw [(hbl.grew h).at_]; rfl⟩)
  have CK := Lib.hid (show ∀ wx, Grew W wx → (Instr.lookup 76 (.map (some b)) (.int .u32 s.f0) false).run Try.prog wx = .ok (.slice Av nz cv) wx from fun wx h => hlk wx (h.block _ hmlt.1))
  have hoi1 := hoi.1
  rw [← hnz] at hoi1
  have HOI := Lib.hid hoi1
  have HCL := Lib.hid hCl
  have HGW := Lib.hid hgw
  have HW := Lib.hid hW
  have HG := Lib.hid hg
  have HNZ := Lib.hid hnz
  rw [← hzs]
  obtain ⟨R, hR⟩ : ∃ R, R = findP L s.f1 zs := ⟨_, rfl⟩
  rw [← hR]
  have HR := Lib.hid hR
  have hz2 : nz ≤ 100000 := by omega
  clear hoi1 hW hg hbl hgw hI hlk hdat hoi hzl hback hsh hzs hnz hnl hCl hcl hmlt hR h hwf
  go_enter Try.func33, Try.ntmps33
  go_wp2_with fail
  rw [← HW.out, ← HG.out]
  apply region_grew [Is _, Is _, Is _, Is _, Is _, Is _, Is _, Is _, Is _] [([(0, none)], none), ([(10, some 0)], none), ([(11, some 1)], none), ([(12, some 2)], none), ([(3, none)], none), ([(14, some 4)], none), ([(13, some 3), (15, some 5)], none), ([(16, some 6)], none), ([], none)] [(10, 0), (11, 1), (12, 2), (13, 3), (14, 4), (15, 5), (16, 6), (17, 7), (18, 8)] rfl (by kernel_rfl) (by kernel_rfl) (show Stable Grew _ from ⟨Is.stable _, Is.stable _, Is.stable _, Is.stable _, Is.stable _, Is.stable _, Is.stable _, Is.stable _, Is.stable _, trivial⟩)
  · show OpsHold _ _ _ _ _ _ _ _ _
    refine ⟨fun a_ wx hR hD K hK => ?_, ?_⟩
    · have hG : Grew W wx := (Grew.drew _).trans hR
      simp [Deps, Dep, at_, Is] at hD
      go_simp
      exact hK _ _ (Grew.refl _) rfl
    refine ⟨fun a_ wx hR hD K hK => ?_, ?_⟩
    · have hG : Grew W wx := (Grew.drew _).trans hR
      simp [Deps, Dep, at_, Is] at hD
      go_simp
      exact hK _ _ (Grew.refl _) rfl
    refine ⟨fun a_ wx hR hD K hK => ?_, ?_⟩
    · have hG : Grew W wx := (Grew.drew _).trans hR
      simp [Deps, Dep, at_, Is] at hD
      go_simp
      exact hK _ _ (Grew.refl _) rfl
    refine ⟨fun a_ wx hR hD K hK => ?_, ?_⟩
    · have hG : Grew W wx := (Grew.drew _).trans hR
      simp [Deps, Dep, at_, Is] at hD
      have e_ := CM.out wx hG
      go_simp
      exact hK _ _ (Grew.refl _) rfl
    refine ⟨fun a_ wx hR hD K hK => ?_, ?_⟩
    · have hG : Grew W wx := (Grew.drew _).trans hR
      simp [Deps, Dep, at_, Is] at hD
      go_simp
      exact hK _ _ (Grew.refl _) rfl
    refine ⟨fun a_ wx hR hD K hK => ?_, ?_⟩
    · have hG : Grew W wx := (Grew.drew _).trans hR
      simp [Deps, Dep, at_, Is] at hD
      have e_ := (CB.out wx hG).1
      go_simp
      exact hK _ _ (Grew.refl _) rfl
    refine ⟨fun a_ wx hR hD K hK => ?_, ?_⟩
    · have hG : Grew W wx := (Grew.drew _).trans hR
      simp [Deps, Dep, at_, Is] at hD
      obtain ⟨hd0, hd1⟩ := hD
      have e_ := CK.out wx hG
      go_simp
      exact hK _ _ (Grew.refl _) rfl
    refine ⟨fun a_ wx hR hD K hK => ?_, ?_⟩
    · have hG : Grew W wx := (Grew.drew _).trans hR
      simp [Deps, Dep, at_, Is] at hD
      go_simp
      exact hK _ _ (Grew.refl _) rfl
    refine ⟨fun a_ wx hR hD K hK => ?_, ?_⟩
    · have hG : Grew W wx := (Grew.drew _).trans hR
      go_simp
      exact hK _ _ (Grew.refl _) rfl
    trivial
  · show EndHold _ _ _ _ _ _ _
    refine end_all (xs := [_, _, _, _, _, _, _, _, _]) ⟨rfl, rfl, rfl, rfl, rfl, rfl, rfl, rfl, rfl, trivial⟩ ?_
    rintro w2 hR1 -
    refine ⟨?_⟩
    have hG_w2 : Grew W w2 := (Grew.drew _).trans hR1
    clear hR1
    simp only [Act.put, List.setIfInBounds_toArray, List.set_cons_succ, List.set_cons_zero, dropN, putEach]
    go_wp2_with fail
    go_loopw [18] (fun iv wr => ∃ k : Nat, k ≤ nz ∧ iv = .int .i64 (k : Int) ∧ R = findP L s.f1 (zs.drop k) ∧ Grew W wr) (fun iv _ => nz - (intOf iv).toNat)
    case atStart => exact ⟨0, Nat.zero_le _, rfl, by rw [List.drop_zero]; exact HR.out, hG_w2⟩
    case round =>
      obtain ⟨k, hk, rfl, hre, hgr⟩ := hrel
      by_cases hlt : k < nz
      · have d1 : decide ((k : Int) < (nz : Int)) = true := decide_eq_true (by omega)
        have d2 : decide (k < nz) = true := decide_eq_true hlt
        have hkz : k < zs.length := by rw [← HNZ.out]; exact hlt
        obtain ⟨j, hj, hjl⟩ := HMEM.out zs[k] (List.getElem_mem _)
        obtain ⟨gv, cap, hve, -, -, -⟩ := own_head (k := .i64) (l := zs) HOI.out (by omega)
        obtain ⟨rfl, -, -⟩ := (Value.slice.injEq _ _ _ _ _ _).mp hve
        have c1 := (own_atN (k := .i64) (pw_own_below HOI.out hgr) k hlt).1
        rw [show zs.getD k 0 = (j : Int) from by simp [List.getD, hkz, hj]] at c1
        rw [List.drop_eq_getElem_cons hkz] at hre
        simp only [findP] at hre
        rw [hj, Int.toNat_natCast] at hre
        have ij : (j : Int) < (nl : Int) := by omega
        obtain ⟨ad, hAl, -, k1⟩ := at_T64 HCL.out (j : Int) (by omega) ij
        subst hAl
        rw [Int.toNat_natCast, show (rd_T64 L (j : Int)) = L.getD j z64 from by unfold rd_T64; rw [Int.toNat_natCast]] at k1
        obtain ⟨y, hy⟩ : ∃ y, y = (L.getD j z64).f1 := ⟨_, rfl⟩
        rw [← hy] at k1 hre
        have K1 := Lib.hid (fun wx (h : Grew wr wx) => pw_cell_below (hgr.trans h) k1)
        have CL2 := Lib.hid (fun wx (h : Grew wr wx) => CL.out wx (hgr.trans h))
        have CB2 := Lib.hid (fun wx (h : Grew wr wx) => (CB.out wx (hgr.trans h)).2)
        have HRE := Lib.hid hre
        have HGR := Lib.hid hgr
        have jd : decide (j < nl) = true := decide_eq_true hjl
        have jd2 : decide ((j : Int) < (nl : Int)) = true := decide_eq_true ij
        clear hkz hj hve hy hre k1 hgr
        by_cases hys : y = s.f1
        · have e1 : (y.toList == s.f1.toList) = true := by rw [toList_beq]; exact decide_eq_true hys
          have e2 : decide (y = s.f1) = true := decide_eq_true hys
          have HYS := Lib.hid hys
          clear hys
          go_wp2_with fail
          apply region_grew [Is _, Is _, Is _, Is _, Is _, Is _, Is _, Is _, Is _, Is _] [([(0, none)], none), ([(22, some 0)], none), ([(23, some 1)], none), ([(24, some 2)], none), ([(7, none)], none), ([(25, some 3), (26, some 4)], none), ([(27, some 5)], none), ([(28, some 6)], none), ([(3, none)], none), ([(30, some 8)], none)] [(22, 0), (23, 1), (24, 2), (25, 3), (26, 4), (27, 5), (28, 6), (29, 7), (30, 8), (31, 9)] rfl (by kernel_rfl) (by kernel_rfl) (show Stable Grew _ from ⟨Is.stable _, Is.stable _, Is.stable _, Is.stable _, Is.stable _, Is.stable _, Is.stable _, Is.stable _, Is.stable _, Is.stable _, trivial⟩)
          · show OpsHold _ _ _ _ _ _ _ _ _
            refine ⟨fun a_ wx hR hD K hK => ?_, ?_⟩
            · have hG : Grew wr wx := (Grew.drew _).trans hR
              simp [Deps, Dep, at_, Is] at hD
              go_simp
              exact hK _ _ (Grew.refl _) rfl
            refine ⟨fun a_ wx hR hD K hK => ?_, ?_⟩
            · have hG : Grew wr wx := (Grew.drew _).trans hR
              simp [Deps, Dep, at_, Is] at hD
              go_simp
              exact hK _ _ (Grew.refl _) rfl
            refine ⟨fun a_ wx hR hD K hK => ?_, ?_⟩
            · have hG : Grew wr wx := (Grew.drew _).trans hR
              simp [Deps, Dep, at_, Is] at hD
              go_simp
              exact hK _ _ (Grew.refl _) rfl
            refine ⟨fun a_ wx hR hD K hK => ?_, ?_⟩
            · have hG : Grew wr wx := (Grew.drew _).trans hR
              simp [Deps, Dep, at_, Is] at hD
              have e_ := CL2.out wx hG
              go_simp
              exact hK _ _ (Grew.refl _) rfl
            refine ⟨fun a_ wx hR hD K hK => ?_, ?_⟩
            · have hG : Grew wr wx := (Grew.drew _).trans hR
              simp [Deps, Dep, at_, Is] at hD
              go_simp
              exact hK _ _ (Grew.refl _) rfl
            refine ⟨fun a_ wx hR hD K hK => ?_, ?_⟩
            · have hG : Grew wr wx := (Grew.drew _).trans hR
              simp [Deps, Dep, at_, Is] at hD
              obtain ⟨hd0, hd1⟩ := hD
              go_simp
              exact hK _ _ (Grew.refl _) rfl
            refine ⟨fun a_ wx hR hD K hK => ?_, ?_⟩
            · have hG : Grew wr wx := (Grew.drew _).trans hR
              simp [Deps, Dep, at_, Is] at hD
              go_simp
              exact hK _ _ (Grew.refl _) rfl
            refine ⟨fun a_ wx hR hD K hK => ?_, ?_⟩
            · have hG : Grew wr wx := (Grew.drew _).trans hR
              simp [Deps, Dep, at_, Is] at hD
              have e_ := K1.out wx hG
              go_simp
              exact hK _ _ (Grew.refl _) rfl
            refine ⟨fun a_ wx hR hD K hK => ?_, ?_⟩
            · have hG : Grew wr wx := (Grew.drew _).trans hR
              simp [Deps, Dep, at_, Is] at hD
              go_simp
              exact hK _ _ (Grew.refl _) rfl
            refine ⟨fun a_ wx hR hD K hK => ?_, ?_⟩
            · have hG : Grew wr wx := (Grew.drew _).trans hR
              simp [Deps, Dep, at_, Is] at hD
              have e_ := CB2.out wx hG
              go_simp
              exact hK _ _ (Grew.refl _) rfl
            trivial
          · show EndHold _ _ _ _ _ _ _
            refine end_all (xs := [_, _, _, _, _, _, _, _, _, _]) ⟨rfl, rfl, rfl, rfl, rfl, rfl, rfl, rfl, rfl, rfl, trivial⟩ ?_
            rintro w3 hR1 -
            refine ⟨?_⟩
            have hG_w3 : Grew wr w3 := (Grew.drew _).trans hR1
            clear hR1
            simp only [Act.put, List.setIfInBounds_toArray, List.set_cons_succ, List.set_cons_zero, dropN, putEach]
            go_wp2_with fail
            go_ret2
            have := HRE.out
            rw [if_pos HYS.out] at this
            rw [this]
            exact ⟨_, rfl, rfl, (HGW.out.trans HGR.out).trans hG_w3⟩
        · have e1 : (y.toList == s.f1.toList) = false := by rw [toList_beq]; exact decide_eq_false hys
          have e2 : decide (y = s.f1) = false := decide_eq_false hys
          have HYS := Lib.hid hys
          clear hys
          go_wp2_with fail
          apply region_grew [Is _, Is _, Is _, Is _, Is _, Is _, Is _, Is _, Is _, Is _] [([(0, none)], none), ([(22, some 0)], none), ([(23, some 1)], none), ([(24, some 2)], none), ([(7, none)], none), ([(25, some 3), (26, some 4)], none), ([(27, some 5)], none), ([(28, some 6)], none), ([(3, none)], none), ([(30, some 8)], none)] [(22, 0), (23, 1), (24, 2), (25, 3), (26, 4), (27, 5), (28, 6), (29, 7), (30, 8), (31, 9)] rfl (by kernel_rfl) (by kernel_rfl) (show Stable Grew _ from ⟨Is.stable _, Is.stable _, Is.stable _, Is.stable _, Is.stable _, Is.stable _, Is.stable _, Is.stable _, Is.stable _, Is.stable _, trivial⟩)
          · show OpsHold _ _ _ _ _ _ _ _ _
            refine ⟨fun a_ wx hR hD K hK => ?_, ?_⟩
            · have hG : Grew wr wx := (Grew.drew _).trans hR
              simp [Deps, Dep, at_, Is] at hD
              go_simp
              exact hK _ _ (Grew.refl _) rfl
            refine ⟨fun a_ wx hR hD K hK => ?_, ?_⟩
            · have hG : Grew wr wx := (Grew.drew _).trans hR
              simp [Deps, Dep, at_, Is] at hD
              go_simp
              exact hK _ _ (Grew.refl _) rfl
            refine ⟨fun a_ wx hR hD K hK => ?_, ?_⟩
            · have hG : Grew wr wx := (Grew.drew _).trans hR
              simp [Deps, Dep, at_, Is] at hD
              go_simp
              exact hK _ _ (Grew.refl _) rfl
            refine ⟨fun a_ wx hR hD K hK => ?_, ?_⟩
            · have hG : Grew wr wx := (Grew.drew _).trans hR
              simp [Deps, Dep, at_, Is] at hD
              have e_ := CL2.out wx hG
              go_simp
              exact hK _ _ (Grew.refl _) rfl
            refine ⟨fun a_ wx hR hD K hK => ?_, ?_⟩
            · have hG : Grew wr wx := (Grew.drew _).trans hR
              simp [Deps, Dep, at_, Is] at hD
              go_simp
              exact hK _ _ (Grew.refl _) rfl
            refine ⟨fun a_ wx hR hD K hK => ?_, ?_⟩
            · have hG : Grew wr wx := (Grew.drew _).trans hR
              simp [Deps, Dep, at_, Is] at hD
              obtain ⟨hd0, hd1⟩ := hD
              go_simp
              exact hK _ _ (Grew.refl _) rfl
            refine ⟨fun a_ wx hR hD K hK => ?_, ?_⟩
            · have hG : Grew wr wx := (Grew.drew _).trans hR
              simp [Deps, Dep, at_, Is] at hD
              go_simp
              exact hK _ _ (Grew.refl _) rfl
            refine ⟨fun a_ wx hR hD K hK => ?_, ?_⟩
            · have hG : Grew wr wx := (Grew.drew _).trans hR
              simp [Deps, Dep, at_, Is] at hD
              have e_ := K1.out wx hG
              go_simp
              exact hK _ _ (Grew.refl _) rfl
            refine ⟨fun a_ wx hR hD K hK => ?_, ?_⟩
            · have hG : Grew wr wx := (Grew.drew _).trans hR
              simp [Deps, Dep, at_, Is] at hD
              go_simp
              exact hK _ _ (Grew.refl _) rfl
            refine ⟨fun a_ wx hR hD K hK => ?_, ?_⟩
            · have hG : Grew wr wx := (Grew.drew _).trans hR
              simp [Deps, Dep, at_, Is] at hD
              have e_ := CB2.out wx hG
              go_simp
              exact hK _ _ (Grew.refl _) rfl
            trivial
          · show EndHold _ _ _ _ _ _ _
            refine end_all (xs := [_, _, _, _, _, _, _, _, _, _]) ⟨rfl, rfl, rfl, rfl, rfl, rfl, rfl, rfl, rfl, rfl, trivial⟩ ?_
            rintro w3 hR1 -
            refine ⟨?_⟩
            have hG_w3 : Grew wr w3 := (Grew.drew _).trans hR1
            clear hR1
            simp only [Act.put, List.setIfInBounds_toArray, List.set_cons_succ, List.set_cons_zero, dropN, putEach]
            have hw : IntKind.i64.wrap ((k : Int) + 1) = (k : Int) + 1 := by rw [IntWalk.i64_in _ (by omega)]
            go_wp2_with fail
            go_roundw
            case rel =>
              refine ⟨k + 1, hlt, by go_num, ?_, HGR.out.trans hG_w3⟩
              have := HRE.out
              rw [if_neg HYS.out] at this
              exact this
            case measure => simp [intOf]; omega
      · obtain rfl : k = nz := by omega
        have d1 : decide ((k : Int) < (k : Int)) = false := decide_eq_false (by omega)
        have d2 : decide (k < k) = false := decide_eq_false (by omega)
        rw [HNZ.out, List.drop_length] at hre
        simp only [findP] at hre
        subst hre
        go_wp2_with fail
        go_ret2
        exact ⟨_, rfl, rfl, HGW.out.trans hgr⟩
set_option maxHeartbeats 2000000 in
theorem iweak_c (w : World) (B p : Nat) (L : List S64) (lv : Value) (b base : Nat) (D : DataW Unit) (h : Idx B p L L lv b base D w) (n : Int) (hwf : (Lit.int .u32 n).wf = true) (hn : L.length ≤ 100000) :
    Calls Try.prog 32 #[.pointer (some ⟨p, 0, none⟩), .int .u32 n] w (Tells w (Is (.bool (decide (0 < (posns L n).length))))) := by
  obtain ⟨v, zs, hlk, hdat, hoi, hzl, hback, hsh⟩ := groups_at h.grp keyG Try.underlying76 zeroG (by unfold maxLen; omega) (Maps.keyOf_int_mk Try.underlying62 hwf)
  have hzs := h.reads.at_ hdat hoi
  obtain ⟨Av, cv, rfl⟩ := own_slice hoi.1
  rw [← hzs]
  have hl := hlk w rfl
  have c1 : w.cell? ⟨p, 1, none⟩ = some (.map (some b)) := by rw [h.cells.at_]; rfl
  obtain ⟨nz, hnz⟩ : ∃ nz, nz = zs.length := ⟨_, rfl⟩
  rw [← hnz] at hl ⊢
  clear hlk hdat hoi hzl hback hsh hzs hnz h hwf
  by_cases hp : 0 < nz
  · have d1 : decide (0 < nz) = true := decide_eq_true hp
    have d2 : decide (0 < (nz : Int)) = true := decide_eq_true (by omega)
    rw [d1]
    go_enter Try.func32, Try.ntmps32
    go_wp2_with fail
    go_ret
    exact ⟨_, rfl, rfl, Grew.refl _⟩
  · have d1 : decide (0 < nz) = false := decide_eq_false hp
    have d2 : decide (0 < (nz : Int)) = false := decide_eq_false (by omega)
    rw [d1]
    go_enter Try.func32, Try.ntmps32
    go_wp2_with fail
    go_ret
    exact ⟨_, rfl, rfl, Grew.refl _⟩
end Go.Proofs.Ytimcafohmahapaa.F

-- DelP
namespace Go.Proofs.Ytimcafohmahapaa.F
open Go Go.RowKit Go.Proofs.YtimcafohmahapaaW.PrintWords Go.Proofs.YtimcafohmahapaaW.PrintLast Go.Proofs.YtimcafohmahapaaW.PrintMore Go.Proofs.YtimcafohmahapaaM Go.Proofs.YtimcafohmahapaaR
open Go.ChangeShapes
attribute [local go_sem] max2_int min2_int max_two min_two
set_option linter.unusedSimpArgs false
set_option linter.unusedVariables false
set_option maxRecDepth 100000
abbrev Sg := S64
/-- is this the signature? -/
def isS (s x : Sg) : Bool := decide (x.f0 = s.f0) && decide (x.f1 = s.f1)
theorem isS_iff (s x : Sg) : isS s x = true ↔ x = s := by
  obtain ⟨s0, s1⟩ := s
  obtain ⟨x0, x1⟩ := x
  unfold isS
  simp
def pairO : Option Nat → Int × Bool
  | some j => ((j : Int), true)
  | none => (0, false)
theorem findP_from (L : List Sg) (s : Sg) : ∀ (suf pre : List Sg), L = pre ++ suf →
    findP L s.f1 (((List.range' pre.length suf.length).filter fun i => decide ((L.getD i z64).f0 = s.f0)).map fun i : Nat => (i : Int)) = pairO ((suf.findIdx? (isS s)).map (pre.length + ·))
  | [], pre, _ => by simp [findP, pairO]
  | x :: suf, pre, h => by
    have ih := findP_from L s suf (pre ++ [x]) (by rw [h]; simp)
    rw [List.length_append, List.length_singleton] at ih
    have hx : L.getD pre.length z64 = x := by rw [h]; simp [List.getD]
    rw [List.length_cons, List.range'_succ, List.findIdx?_cons]
    by_cases h0 : x.f0 = s.f0
    · rw [List.filter_cons_of_pos (by rw [hx]; exact decide_eq_true h0), List.map_cons, findP, Int.toNat_natCast, hx]
      by_cases h1 : x.f1 = s.f1
      · rw [if_pos h1]
        simp [isS, h0, h1, pairO]
      · rw [if_neg h1, ih]
        simp [isS, h1]
        cases suf.findIdx? (isS s) <;> simp [pairO]; omega
    · rw [List.filter_cons_of_neg (by rw [hx]; simpa using h0), ih]
      simp [isS, h0]
      cases suf.findIdx? (isS s) <;> simp [pairO]; omega
theorem findP_eq (L : List Sg) (s : Sg) : findP L s.f1 (posns L s.f0) = pairO (L.findIdx? (isS s)) := by
  have := findP_from L s L [] rfl
  unfold posns
  rw [List.range_eq_range', show List.length ([] : List Sg) = 0 from rfl] at *
  rw [this]
  cases L.findIdx? (isS s) <;> simp
/-- no place of that weak sum: it is not found -/
theorem find_weak {L : List Sg} {s : Sg} (h : ¬ 0 < (posns L s.f0).length) : L.findIdx? (isS s) = none := by
  have := findP_eq L s
  rw [List.eq_nil_of_length_eq_zero (Nat.eq_zero_of_not_pos h)] at this
  cases hf : L.findIdx? (isS s) with
  | none => rfl
  | some j => rw [hf] at this; simp [findP, pairO] at this
theorem next_c (s n o i : Int) (w : World) (s0 : 0 ≤ s) (s1 : s < 4294967296) (o0 : 0 ≤ o) (o1 : o < 256) (i0 : 0 ≤ i) (i1 : i < 256) :
    Calls Try.prog 35 #[.int .u32 s, .int .i64 n, .int .u8 o, .int .u8 i] w (Tells w (Is (.int .u32 (next s n o i)))) := by
  have ha := and16 s s0 s1
  go_enter Try.func35, Try.ntmps35
  go_wp2_with fail
  refine (make16_c _ _ _ (by omega) (by omega)).mono ?_
  rintro e w' ⟨_, rfl, rfl, hg⟩
  go_wp2
  go_ret
  refine ⟨_, rfl, ?_, hg⟩
  simp only [Is]
  simp
  have := mul_mod16 n o
  unfold next
  omega
/-- pieces as cells -/
def enc3 (p : Pc) : List Value := [.bool p.f0, .int .i64 p.f1, .string p.f2]
def pcs (l : List Pc) : List Value := l.flatMap enc3
theorem pcs_snoc (l : List Pc) (e : Pc) : pcs (l ++ [e]) = pcs l ++ enc3 e := by simp [pcs]
theorem pcs_cons (e : Pc) (l : List Pc) : pcs (e :: l) = enc3 e ++ pcs l := by simp [pcs]
theorem pcs_len (l : List Pc) : (pcs l).length = l.length * 3 := by
  induction l with
  | nil => rfl
  | cons x l ih => rw [pcs_cons, List.length_append, ih, List.length_cons]; simp [enc3]; omega
theorem pcs_at (l : List Pc) : ∀ (i : Nat) (e : Pc), l[i]? = some e → ∀ j, j < 3 → (pcs l)[i * 3 + j]? = (enc3 e)[j]? := by
  induction l with
  | nil => intro i x h; simp at h
  | cons y l ih =>
    intro i e h j hj
    rw [pcs_cons]
    cases i with
    | zero =>
      obtain rfl : y = e := by simpa using h
      rw [Nat.zero_mul, Nat.zero_add, List.getElem?_append_left (by simp [enc3]; omega)]
    | succ i =>
      rw [List.getElem?_append_right (by simp [enc3]; omega)]
      have := ih i e (by simpa using h) j hj
      rw [← this]
      congr 1
      simp [enc3]; omega
theorem pcs_set (l : List Pc) (i : Nat) (e : Pc) (s : ByteArray) (h : l[i]? = some e) : (pcs l).set (i * 3 + 2) (.string s) = pcs (l.set i ⟨e.f0, e.f1, s⟩) := by
  induction l generalizing i with
  | nil => simp at h
  | cons y l ih =>
    rw [pcs_cons]
    cases i with
    | zero =>
      obtain rfl : y = e := by simpa using h
      simp [pcs, enc3]
    | succ i =>
      have := ih i (by simpa using h)
      rw [show (i + 1) * 3 + 2 = 3 + (i * 3 + 2) from by omega, List.set_append_right _ _ (by simp [enc3]), show (enc3 y).length = 3 from rfl, Nat.add_sub_cancel_left, this]
      simp [pcs]
theorem enc3_one (e : Pc) : ∀ u ∈ enc3 e, u.oneCell' = true := by
  intro u hu
  simp [enc3] at hu
  rcases hu with rfl | rfl | rfl <;> rfl
theorem infoPc : (Try.prog.info? 43).map (fun i => (i.zero, i.size, i.bytes)) = some (some (.agg #[.bool false, .int .i64 0, .string ⟨#[]⟩]), 3, 32) := by kernel_rfl
/-- a row of one's own of pieces is read -/
theorem rowP_C {w : World} {base n : Nat} {v : Value} {l : List Pc} (h : RowO w base 43 3 v n (pcs l)) (hn : l.length = n) : ∃ A c, v = .slice A n c ∧ n ≤ c ∧ Kd.C k43 w A n l := by
  have hle := h.slice
  rcases h.2 with ⟨rfl, rfl⟩ | ⟨g, o, cap, cur, rfl, hb, hh, hnc, hcm, hs, hx⟩
  · refine ⟨none, 0, rfl, Nat.le_refl _, hn, by omega, fun hp => absurd hp (by omega)⟩
  · refine ⟨_, cap, rfl, hnc, hn, by unfold maxLen at hcm; omega, fun hp => ⟨_, rfl, fun j p hj => ⟨enc3 p, rfl, ?_, fun i u hu => ?_⟩⟩⟩
    · exact k43_mk w p
    · have hi : i < 3 := (List.getElem?_eq_some_iff.1 hu).1
      have hjl := (List.getElem?_eq_some_iff.1 hj).1
      obtain ⟨g', o', cap', hv, _, _, _, hcell, _⟩ := h.at_ hp
      injection hv with hv1 hv2 hv3
      injection hv1 with hv1
      injection hv1 with hv1 hv4
      subst hv1 hv4
      have := hcell (j * 3 + i) (by omega)
      rw [pcs_at l j p hj i hi, hu] at this
      rw [← this]
      show w.cell? (Addr.add ⟨g, o, none⟩ (j * 3 + i)) = _
      congr 1
      simp [Addr.add]
/-- a byte by itself, behind pieces -/
def bysD (l : List Pc) (s : ByteArray) : List Pc :=
  if 0 < l.length ∧ (l.getD (l.length - 1) z43).f0 = false then
    l.set (l.length - 1) ⟨(l.getD (l.length - 1) z43).f0, (l.getD (l.length - 1) z43).f1, (l.getD (l.length - 1) z43).f2 ++ s⟩
  else l ++ [⟨false, 0, s⟩]
/-- the signatures of whole blocks -/
def wholeS (sg : List Sg) (size last : Nat) : List Sg := if last < size ∧ 0 < sg.length then sg.take (sg.length - 1) else sg
/-- the pieces that are made -/
def mkD (key : ByteArray) (sg : List Sg) (size last : Nat) (t : ByteArray) : Nat → Nat → List Pc → List Pc
  | 0, _, acc => acc
  | f + 1, i, acc =>
    if i < t.size then
      if size ≤ t.size - i then
        match (wholeS sg size last).findIdx? (isS (oneS key (t.extract i (i + size)))) with
        | some k => mkD key sg size last t f (i + size) (acc ++ [⟨true, (k : Int), ⟨#[]⟩⟩])
        | none => mkD key sg size last t f (i + 1) (bysD acc (strOfNums [bt t (i : Int)]))
      else if t.size - i = last ∧ isS (oneS key (t.extract i t.size)) (sg.getD (sg.length - 1) z64) = true then acc ++ [⟨true, ((sg.length - 1 : Nat) : Int), ⟨#[]⟩⟩]
      else mkD key sg size last t f (i + 1) (bysD acc (strOfNums [bt t (i : Int)]))
    else acc
theorem mkD_end {key : ByteArray} {sg : List Sg} {size last : Nat} {t : ByteArray} {f i : Nat} {acc : List Pc} (h : ¬ i < t.size) : mkD key sg size last t f i acc = acc := by
  cases f with
  | zero => rfl
  | succ f => rw [mkD, if_neg h]
end Go.Proofs.Ytimcafohmahapaa.F

-- DelB
namespace Go.Proofs.Ytimcafohmahapaa.F
open Go Go.RowKit Go.Proofs.YtimcafohmahapaaW.PrintWords Go.Proofs.YtimcafohmahapaaW.PrintLast Go.Proofs.YtimcafohmahapaaW.PrintMore Go.Proofs.YtimcafohmahapaaM Go.Proofs.YtimcafohmahapaaR
attribute [local go_sem] max2_int min2_int max_two min_two
set_option linter.unusedSimpArgs false
set_option linter.unusedVariables false
set_option maxRecDepth 100000
/-- pieces in a row of one's own, and where it lies -/
def BysV (base : Nat) (l : List Pc) (vb : Value) (N : Nat) : World → Value → Prop := fun w v => RowO w base 43 3 v l.length (pcs l) ∧ (v.ownBlock = vb.ownBlock ∨ ∃ k, v.ownBlock = some k ∧ N ≤ k)
theorem one_row (w : World) (c : Int) : Row [c] (w.alloc (.cells #[.int .u8 c] 5)) (.slice (some ⟨w.heap.size, 0, none⟩) 1 1) :=
  ⟨some ⟨w.heap.size, 0, none⟩, 1, rfl, Nat.le_refl _, Blk.C (xs := [c]) (Blk.new w 5 (nums .u8 [c])) (by simp)⟩
set_option maxHeartbeats 8000000 in
theorem byself_c (w : World) (base : Nat) (v : Value) (l : List Pc) (c : Int) (hro : RowO w base 43 3 v l.length (pcs l)) (hbase : base ≤ w.heap.size) (hl : l.length ≤ 10000) (hs : ∀ p ∈ l, p.f2.size ≤ 100000) :
    Calls Try.prog 34 #[v, .int .u8 c] w (Does (fun j => v.ownBlock = some j) w (BysV base (bysD l (strOfNums [c])) v w.heap.size)) := by
  obtain ⟨R, hR⟩ : ∃ R, R = bysD l (strOfNums [c]) := ⟨_, rfl⟩
  rw [← hR]
  have HRE := Lib.hid hR
  obtain ⟨A, cv, rfl, hcv⟩ := hro.slice
  obtain ⟨n, hn⟩ : ∃ n, n = l.length := ⟨_, rfl⟩
  have HN := Lib.hid hn
  rw [← hn] at hro hl hcv ⊢
  have HRO := Lib.hid (fun wx (h : Grew w wx) => hro.grew h)
  have HBS := Lib.hid hbase
  obtain ⟨SC, hSC⟩ : ∃ SC, SC = strOfNums [c] := ⟨_, rfl⟩
  rw [← hSC] at HRE
  have hsc : SC.size = 1 := by rw [hSC, str_size]; rfl
  have HSC := Lib.hid hSC
  have HSS := Lib.hid hs
  clear hR hn hro hbase hSC hs
  by_cases hcase : 0 < n ∧ (l.getD (n - 1) z43).f0 = false
  · obtain ⟨hpos, hf0⟩ := hcase
    obtain ⟨p, hp⟩ : ∃ p, p = l.getD (n - 1) z43 := ⟨_, rfl⟩
    rw [← hp] at hf0
    have hlp : l[n - 1]? = some p := by
      rw [hp, List.getD_eq_getElem?_getD, List.getElem?_eq_getElem (by rw [← HN.out]; omega)]; rfl
    have hres : R = l.set (n - 1) ⟨p.f0, p.f1, p.f2 ++ SC⟩ := by
      rw [HRE.out]; unfold bysD
      rw [← HN.out, ← hp, if_pos ⟨hpos, hf0⟩]
    have hps := HSS.out p (List.mem_of_getElem? hlp)
    have HRES := Lib.hid hres
    have HLP := Lib.hid hlp
    clear hres hlp hp
    obtain ⟨f0, f1, f2⟩ := p
    simp only at hf0 hps
    subst hf0
    obtain ⟨gx, ox, cap, hv, hnc, hbg, hgl, hcell, hfz⟩ := (HRO.out w (Grew.refl _)).at_ hpos
    injection hv with hv1 hv2 hv3
    subst hv1 hv3
    obtain ⟨q, hq⟩ : ∃ q, q = n - 1 := ⟨_, rfl⟩
    have hqi : (n : Int) - 1 = (q : Int) := by omega
    have wq : IntKind.i64.wrap (q : Int) = (q : Int) := IntWalk.i64_in _ (by omega)
    rw [← hq] at HRES HLP
    have k0 := hcell (q * 3 + 0) (by omega)
    have k2 := hcell (q * 3 + 2) (by omega)
    rw [pcs_at l q _ HLP.out 0 (by omega)] at k0
    rw [pcs_at l q _ HLP.out 2 (by omega)] at k2
    simp only [enc3, List.getElem?_cons_zero, List.getElem?_cons_succ, Nat.add_zero, ← Nat.add_assoc] at k0 k2
    have HK := Lib.hid (fun wx (h : Grew w wx) => And.intro (pw_cell_below h k0) (pw_cell_below h k2))
    have HZ := Lib.hid (fun wx (h : Grew w wx) => show wx.frozen? ⟨gx, ox + q * 3 + 2, none⟩ = false from by
      obtain ⟨g', o', cap', hv', -, -, -, -, hz'⟩ := (HRO.out wx h).at_ hpos
      injection hv' with hv1'
      injection hv1' with hv1'
      injection hv1' with hb' ho'
      subst hb'
      exact hz' _)
    have d1 : decide (0 < (n : Int)) = true := decide_eq_true (by omega)
    have d2 : decide (0 < n) = true := decide_eq_true hpos
    have q1 : (q : Int) < (n : Int) := by omega
    have q2 : q < n := by omega
    have HAD := Lib.hid (show ¬ 9223372036854775807 < f2.size + SC.size by omega)
    clear hcell hfz hv2 hbg hgl hq
    go_enter Try.func34, Try.ntmps34
    go_wp2_with fail
    clear k0 k2
    apply region_grew [Is _, Is _, Is _, Is _, Is _, Is _, Is _, Row [c], Is _] [([(0, none)], none), ([(5, none)], none), ([(20, some 1)], none), ([(19, some 0), (21, some 2)], none), ([(22, some 3)], none), ([(23, some 4)], none), ([(1, none)], none), ([(25, some 6)], none), ([(26, some 7)], none)] [(26, 7), (19, 0), (20, 1), (21, 2), (22, 3), (23, 4), (24, 5), (25, 6), (27, 8)] rfl (by kernel_rfl) (by kernel_rfl) (show Stable Grew _ from ⟨Is.stable _, Is.stable _, Is.stable _, Is.stable _, Is.stable _, Is.stable _, Is.stable _, Row.stable _, Is.stable _, trivial⟩)
    · show OpsHold _ _ _ _ _ _ _ _ _
      refine ⟨fun a_ wx hR hD K hK => ?_, ?_⟩
      · have hG : Grew w wx := (Grew.drew _).trans hR
        simp [Deps, Dep, at_, Is] at hD
        go_simp
        exact hK _ _ (Grew.refl _) rfl
      refine ⟨fun a_ wx hR hD K hK => ?_, ?_⟩
      · have hG : Grew w wx := (Grew.drew _).trans hR
        simp [Deps, Dep, at_, Is] at hD
        go_simp
        exact hK _ _ (Grew.refl _) rfl
      refine ⟨fun a_ wx hR hD K hK => ?_, ?_⟩
      · have hG : Grew w wx := (Grew.drew _).trans hR
        simp [Deps, Dep, at_, Is] at hD
        go_simp
        exact hK _ _ (Grew.refl _) rfl
      refine ⟨fun a_ wx hR hD K hK => ?_, ?_⟩
      · have hG : Grew w wx := (Grew.drew _).trans hR
        simp [Deps, Dep, at_, Is] at hD
        obtain ⟨hd0, hd1⟩ := hD
        go_simp
        exact hK _ _ (Grew.refl _) rfl
      refine ⟨fun a_ wx hR hD K hK => ?_, ?_⟩
      · have hG : Grew w wx := (Grew.drew _).trans hR
        simp [Deps, Dep, at_, Is] at hD
        go_simp
        exact hK _ _ (Grew.refl _) rfl
      refine ⟨fun a_ wx hR hD K hK => ?_, ?_⟩
      · have hG : Grew w wx := (Grew.drew _).trans hR
        simp [Deps, Dep, at_, Is] at hD
        obtain ⟨e0, e2⟩ := HK.out wx hG
        go_simp
        exact hK _ _ (Grew.refl _) rfl
      refine ⟨fun a_ wx hR hD K hK => ?_, ?_⟩
      · have hG : Grew w wx := (Grew.drew _).trans hR
        simp [Deps, Dep, at_, Is] at hD
        go_simp
        exact hK _ _ (Grew.refl _) rfl
      refine ⟨fun a_ wx hR hD K hK => ?_, ?_⟩
      · have hG : Grew w wx := (Grew.drew _).trans hR
        simp [Deps, Dep, at_, Is] at hD
        go_simp
        exact hK _ _ (Grew.alloc _ _) (one_row wx c)
      refine ⟨fun a_ wx hR hD K hK => ?_, ?_⟩
      · have hG : Grew w wx := (Grew.drew _).trans hR
        simp [Deps, Dep, at_, Is] at hD
        obtain ⟨A_, c_, hv_, -, hC_⟩ := hD
        have hcv_ := Kd.C_string (P := Try.prog) (c := c_) Try.underlying23 Try.underlying5 Try.underlying9 hC_
        rw [← HSC.out] at hcv_
        clear hC_
        simp only [List.length_cons, List.length_nil, Nat.zero_add] at hv_ hcv_
        go_simp
        exact hK _ _ (Grew.refl _) rfl
      trivial
    · show EndHold _ _ _ _ _ _ _
      intro v26
      refine end_all (xs := [_, _, _, _, _, _, _, _]) ⟨rfl, rfl, rfl, rfl, rfl, rfl, rfl, rfl, trivial⟩ ?_
      rintro w2 hR1 ⟨-, hO7⟩
      refine ⟨?_⟩
      have hG_w2 : Grew w w2 := (Grew.drew _).trans hR1
      clear hR1
      simp only [Act.put, List.setIfInBounds_toArray, List.set_cons_succ, List.set_cons_zero, dropN, putEach]
      clear hO7
      obtain ⟨e0, e2⟩ := HK.out w2 hG_w2
      have z2 := HZ.out w2 hG_w2
      have hro2 := HRO.out w2 hG_w2
      have hset := hro2.set rfl (q * 3 + 2) (by omega) (.string (f2 ++ SC))
      rw [pcs_set l q _ _ HLP.out, ← HRES.out, ← Nat.add_assoc] at hset
      have hus := Upd.set (S := fun j => (Value.slice (some ⟨gx, ox, none⟩) n cv).ownBlock = some j) (p := ⟨gx, ox + q * 3 + 2, none⟩) (Upd.of_grew hG_w2) (.inl rfl) (.string (f2 ++ SC))
      have HSET := Lib.hid hset
      have HUS := Lib.hid hus
      have hrl : R.length = n := by rw [HRES.out, List.length_set, ← HN.out]
      clear hro2 hset hus
      go_wp2_with fail
      go_ret
      exact ⟨_, rfl, ⟨by rw [hrl]; exact HSET.out, .inl rfl⟩, HUS.out⟩
  · have hres : R = l ++ [⟨false, 0, SC⟩] := by
      rw [HRE.out]; unfold bysD
      rw [← HN.out, if_neg hcase]
    have hro := HRO.out w (Grew.refl _)
    have hrl := hro.lt
    obtain ⟨W1, hW1⟩ : ∃ W1, W1 = w.alloc (.cells #[.int .u8 c] 5) := ⟨_, rfl⟩
    have hg1 : Grew w W1 := by rw [hW1]; exact Grew.alloc _ _
    have hst := fun (W : World) => Kd.C_string (P := Try.prog) (w := W.alloc (.cells #[.int .u8 c] 5)) (c := 1) (A := some ⟨W.heap.size, 0, none⟩) Try.underlying23 Try.underlying5 Try.underlying9 (by obtain ⟨A_, c_, hv_, h1_, hC_⟩ := one_row W c; injection hv_ with e1 e2 e3; rw [← e1] at hC_; exact hC_)
    simp only [← HSC.out, List.length_cons, List.length_nil, Nat.zero_add] at hst
    have HST := Lib.hid (hst w)
    obtain ⟨W2, hW2⟩ : ∃ W2, W2 = W1.alloc (.cells (enc3 ⟨false, 0, SC⟩).toArray 43) := ⟨_, rfl⟩
    have hg2 : Grew W1 W2 := by rw [hW2]; exact Grew.alloc _ _
    have hbn : Blk W2 W1.heap.size 43 (enc3 ⟨false, 0, SC⟩) := by rw [hW2]; exact Blk.new _ _ _
    have hsz := (Grew.trans hg1 hg2).size
    have hbase := HBS.out
    obtain ⟨v8, w8, hrun, hro8, hgr8, hnb8⟩ := app_rowO (P := Try.prog) W2 base 22 43 22 (.agg #[.bool false, .int .i64 0, .string ⟨#[]⟩]) 3 32 Try.underlying22 infoPc rfl (by decide) (by decide) (.slice A n cv) n (pcs l) W1.heap.size (enc3 ⟨false, 0, SC⟩) rfl (enc3_one _) (hro.grew (Grew.trans hg1 hg2)) hbn (by omega) (by omega)
    rw [← pcs_snoc, ← hres] at hro8
    have hu8 : Upd (fun j => (Value.slice A n cv).ownBlock = some j) w w8 := (Upd.of_grew (Grew.trans hg1 hg2)).trans (Upd.of_grown hgr8)
    have hrln : R.length = n + 1 := by rw [hres, List.length_append, ← HN.out]; rfl
    have hs1 : W1.heap.size = w.heap.size + 1 := by rw [hW1]; simp
    have HFIN := Lib.hid (show BysV base R (.slice A n cv) w.heap.size w8 v8 from ⟨by rw [hrln]; exact hro8, hnb8.imp id (fun ⟨k, h1, h2⟩ => ⟨k, h1, by omega⟩)⟩)
    have HU := Lib.hid hu8
    rw [hs1] at hrun
    subst hW2
    subst hW1
    have HRUN := Lib.hid hrun
    have hcs : ¬ 0 < n ∨ (0 < n ∧ (l.getD (n - 1) z43).f0 = true) := by
      by_cases h : 0 < n
      · right
        refine ⟨h, ?_⟩
        cases hb : (l.getD (n - 1) z43).f0 with
        | true => rfl
        | false => exact absurd ⟨h, hb⟩ hcase
      · exact .inl h
    clear hcase hres hro hrl hg1 hst hg2 hbn hsz hro8 hgr8 hnb8 hu8 hrln hs1 hrun
    rcases hcs with h0 | ⟨hpos, hf0⟩
    · obtain rfl : n = 0 := by omega
      obtain ⟨A8, c8, hv8, -⟩ := HFIN.out.1.slice
      subst hv8
      go_enter Try.func34, Try.ntmps34
      have hst := HST.out
      go_wp2_with (at_builtin; refine wpList_app (by rfl) (.tmp 32) (.tmp 37) 22 (by rfl) (by rfl) (by rfl) HRUN.out ?_)
      go_ret
      exact ⟨_, rfl, HFIN.out, HU.out⟩
    · obtain ⟨p, hp⟩ : ∃ p, p = l.getD (n - 1) z43 := ⟨_, rfl⟩
      rw [← hp] at hf0
      have hlp : l[n - 1]? = some p := by
        rw [hp, List.getD_eq_getElem?_getD, List.getElem?_eq_getElem (by rw [← HN.out]; omega)]; rfl
      obtain ⟨f0, f1, f2⟩ := p
      simp only at hf0
      subst hf0
      obtain ⟨gx, ox, cap, hv, hnc, hbg, hgl, hcell, hfz⟩ := (HRO.out w (Grew.refl _)).at_ hpos
      injection hv with hv1 hv2 hv3
      subst hv1 hv3
      obtain ⟨q, hq⟩ : ∃ q, q = n - 1 := ⟨_, rfl⟩
      have hqi : (n : Int) - 1 = (q : Int) := by omega
      have wq : IntKind.i64.wrap (q : Int) = (q : Int) := IntWalk.i64_in _ (by omega)
      rw [← hq] at hlp
      have k0 := hcell (q * 3 + 0) (by omega)
      rw [pcs_at l q _ hlp 0 (by omega)] at k0
      simp only [enc3, List.getElem?_cons_zero, List.getElem?_cons_succ, Nat.add_zero, ← Nat.add_assoc] at k0
      have d1 : decide (0 < (n : Int)) = true := decide_eq_true (by omega)
      have d2 : decide (0 < n) = true := decide_eq_true hpos
      have q1 : (q : Int) < (n : Int) := by omega
      have q2 : q < n := by omega
      obtain ⟨A8, c8, hv8, -⟩ := HFIN.out.1.slice
      subst hv8
      clear hcell hfz hv2 hbg hgl hq hp hlp
      go_enter Try.func34, Try.ntmps34
      have hst := HST.out
      go_wp2_with (at_builtin; refine wpList_app (by rfl) (.tmp 32) (.tmp 37) 22 (by rfl) (by rfl) (by rfl) HRUN.out ?_)
      go_ret
      exact ⟨_, rfl, HFIN.out, HU.out⟩
end Go.Proofs.Ytimcafohmahapaa.F

-- SgnN
namespace Go.Proofs.Ytimcafohmahapaa.F
open Go Go.RowKit Go.Proofs.YtimcafohmahapaaW.PrintWords Go.Proofs.YtimcafohmahapaaW.PrintLast Go.Proofs.YtimcafohmahapaaW.PrintMore Go.Proofs.YtimcafohmahapaaM Go.Proofs.YtimcafohmahapaaR
open Go.Maps (Keyed)
open Go.ChangeShapes
attribute [local go_sem] max2_int min2_int max_two min_two
set_option linter.unusedSimpArgs false
set_option linter.unusedVariables false
set_option maxRecDepth 100000
set_option maxHeartbeats 4000000 in
theorem inew_c (w : World) (A : Option Addr) (n c : Nat) (L : List S64) (hC : Kd.C k64 w A n L) (hn : L.length = n) (hc : n ≤ c) (hwf : ∀ x ∈ L, (Lit.int .u32 x.f0).wf = true) :
    Calls Try.prog 30 #[.slice A n c] w (Tells w (IdxV w.heap.size (L.take 1024))) := by
  obtain ⟨M, hM⟩ : ∃ M, M = min n 1024 := ⟨_, rfl⟩
  have hMl : (L.take 1024).length = M := by rw [List.length_take, hn, hM, Nat.min_comm]
  have hm1 : (if (n : Int) < 1024 then (n : Int) else 1024) = (M : Int) := by rw [hM]; split <;> omega
  have hm2 : (if (1024 : Int) < (n : Int) then (1024 : Int) else (n : Int)) = (M : Int) := by rw [hM]; split <;> omega
  have hMc : (M : Int) ≤ (c : Int) := by omega
  have hM2 : M ≤ 1024 := by omega
  have HC := Lib.hid hC
  have HML := Lib.hid hMl
  have HWF := Lib.hid hwf
  have HN := Lib.hid hn
  have hI0 : Idx w.heap.size (w.heap.size + 1) [] [] (.slice none 0 0) w.heap.size (w.heap.size + 1) (.map []) ((w.alloc (.map #[] 0)).alloc (.cells #[.slice none 0 0, .map (some w.heap.size)] 78)) := by
    have hz : (w.alloc (.map #[] 0)).heap.size = w.heap.size + 1 := by simp
    refine ⟨?_, World.ownsRow_nil _ _ _ _, groups_upd (S := fun _ => False) (World.ownsGroups_made w _ _ _ _) (Upd.of_grew (Grew.alloc _ _)) id (fun _ _ h => h), shuns_move (World.Shuns_made w _) ?_, GD.nil, by omega, Nat.le_refl _⟩
    · have := Blk.new (w.alloc (.map #[] 0)) 78 [.slice none 0 0, .map (some w.heap.size)]
      rw [hz] at this
      exact this
    · exact (Grew.alloc _ _).block _ (by rw [hz]; omega)
  have HI0 := Lib.hid hI0
  have hG0 : Grew w ((w.alloc (.map #[] 0)).alloc (.cells #[.slice none 0 0, .map (some w.heap.size)] 78)) := (Grew.alloc _ _).trans (Grew.alloc _ _)
  clear hM hC hMl hwf hn hI0
  have hmm := @run_makeMap Try.prog
  obtain ⟨p, hp⟩ : ∃ p, p = w.heap.size + 1 := ⟨_, rfl⟩
  have HP0 := Lib.hid hp
  clear hp
  go_enter Try.func30, Try.ntmps30
  go_wp2_with fail
  rw [← HP0.out]
  go_loopw [15] (fun iv wr => ∃ (pre suf : List S64) (lv : Value) (D : DataW Unit), iv = .int .i64 (pre.length : Int) ∧ L.take 1024 = pre ++ suf ∧ Idx w.heap.size p pre pre lv w.heap.size (w.heap.size + 1) D wr ∧ Grew w wr) (fun iv _ => M - (intOf iv).toNat)
  case atStart => exact ⟨[], L.take 1024, _, _, rfl, rfl, by rw [HP0.out]; exact HI0.out, hG0⟩
  case round =>
    obtain ⟨pre, suf, lv, D, rfl, hp, hI, hgr⟩ := hrel
    have hnn := HML.out
    rw [hp, List.length_append] at hnn
    rcases suf with _ | ⟨x, suf⟩
    · have d1 : decide ((pre.length : Int) < (M : Int)) = false := decide_eq_false (by simp at hnn; omega)
      have d2 : decide (pre.length < M) = false := decide_eq_false (by simp at hnn; omega)
      rw [List.append_nil] at hp
      have HP := Lib.hid hp
      clear hp hnn
      go_wp2_with fail
      go_ret
      exact ⟨_, rfl, ⟨_, _, _, _, _, rfl, by rw [HP.out]; exact hI⟩, hgr⟩
    · have hlt : pre.length < M := by simp at hnn; omega
      have d1 : decide ((pre.length : Int) < (M : Int)) = true := decide_eq_true (by omega)
      have d2 : decide (pre.length < M) = true := decide_eq_true hlt
      have i1 : (pre.length : Int) < (n : Int) := by omega
      obtain ⟨ad0, rfl, k0, k1⟩ := at_T64 HC.out (pre.length : Int) (by omega) i1
      have hxe : rd_T64 L (pre.length : Int) = x := by
        unfold rd_T64; rw [Int.toNat_natCast]
        have : (L.take 1024)[pre.length]? = some x := by rw [hp]; simp
        rw [List.getElem?_take] at this
        split at this
        · simp [List.getD, this]
        · cases this
      rw [Int.toNat_natCast, hxe] at k0 k1
      have k0 := pw_cell_below hgr k0
      have k1 := pw_cell_below hgr k1
      have HP := Lib.hid (show L.take 1024 = (pre ++ [x]) ++ suf from by rw [hp]; simp)
      have hw : IntKind.i64.wrap ((pre.length : Int) + 1) = (pre.length : Int) + 1 := by rw [IntWalk.i64_in _ (by omega)]
      clear hp hnn hxe
      go_wp2_with fail
      obtain ⟨Ar, cr, rfl⟩ := own_slice hI.row
      obtain ⟨g, hg⟩ : ∃ g, g = wr.heap.size := ⟨_, rfl⟩
      obtain ⟨W2, hW2⟩ : ∃ W2, W2 = wr.alloc (.cells #[.int .u32 x.f0, .string x.f1] 64) := ⟨_, rfl⟩
      have hbl : Blk W2 g 64 [.int .u32 x.f0, .string x.f1] := by rw [hW2, hg]; exact Blk.new wr _ _
      have hg2 : Grew wr W2 := by rw [hW2]; exact Grew.alloc _ _
      rw [← hg, ← hW2]
      have hI2 := hI.grew hg2
      have hlr := own_lt hI2.row
      have hlr0 : ∀ k, (Value.slice Ar pre.length cr).ownBlock = some k → k < g := by rw [hg]; exact own_lt hI.row
      have hBs : w.heap.size ≤ W2.heap.size := (hgr.trans hg2).size
      have HI2 := Lib.hid hI2
      have HBL := Lib.hid hbl
      have HG2 := Lib.hid (hgr.trans hg2)
      have CL := Lib.hid (show ∀ wx, Grew W2 wx → wx.cell? ⟨p, 0, none⟩ = some (.slice Ar pre.length cr) from fun wx h => by rw [(hI2.cells.grew h).at_]; rfl)
      have CB := Lib.hid (show ∀ wx, Grew W2 wx → wx.cell? ⟨g, 0, none⟩ = some (.int .u32 x.f0) ∧ wx.cell? ⟨g, 1, none⟩ = some (.string x.f1) from fun wx h => ⟨by rw [(hbl.grew h).at_]; rfl, by rw [(hbl.grew h).at_]; rfl⟩)
      have HWX := Lib.hid (show (Lit.int .u32 x.f0).wf = true from HWF.out x (List.mem_of_mem_take (by rw [HP.out]; simp)))
      have HO := Lib.hid hI2.row
      clear hI hgr k0 k1 hW2 hg hbl hg2 hI2 HC
      apply region_big (fun w w' => w.grownBy w' (Value.slice Ar pre.length cr).ownBlock) [.float, .plain, .plain, .plain, .plain, .plain, .plain, .big] [Is _, Is _, Is _, Is _, Is _, Is _, OneC 64 [.int .u32 x.f0, .string x.f1] (.slice Ar pre.length cr), AppS w.heap.size 64 2 (sgs pre ++ [.int .u32 x.f0, .string x.f1]) (pre.length + 1) (.slice Ar pre.length cr) W2.heap.size] [([(3, none)], none), ([(3, none)], none), ([(21, some 1)], none), ([(22, some 2)], none), ([(23, some 3)], none), ([(5, none)], none), ([(25, some 5)], none), ([(24, some 4), (26, some 6)], none)] [(26, 6), (27, 7), (20, 0), (21, 1), (22, 2), (23, 3), (24, 4), (25, 5)] rfl (by kernel_rfl) (by kernel_rfl) (by kernel_rfl) (by kernel_rfl) rfl (show StableB Grew _ _ _ from ⟨(fun _ => Is.stableB _), (fun _ => Is.stableB _), (fun _ => Is.stableB _), (fun _ => Is.stableB _), (fun _ => Is.stableB _), (fun _ => Is.stableB _), (fun _ => OneC.stableB _ _ _), (fun h_ => absurd rfl h_), trivial⟩)
      · show PhHold _ _ _ _ _ _ _ _ _ _ _
        refine ⟨fun a_ wx hD K hK => ?_, ?_⟩
        · have hF_ := True.intro
          simp [Deps, Dep, at_, Is] at hD
          go_simp
          exact hK _ _ rfl rfl
        refine ⟨fun a_ wx hR hD K hK => ?_, ?_⟩
        · have hG : Grew W2 wx := (Grew.drew _).trans hR
          simp [Deps, Dep, at_, Is] at hD
          go_simp
          exact hK _ _ (Grew.refl _) rfl
        refine ⟨fun a_ wx hR hD K hK => ?_, ?_⟩
        · have hG : Grew W2 wx := (Grew.drew _).trans hR
          simp [Deps, Dep, at_, Is] at hD
          go_simp
          exact hK _ _ (Grew.refl _) rfl
        refine ⟨fun a_ wx hR hD K hK => ?_, ?_⟩
        · have hG : Grew W2 wx := (Grew.drew _).trans hR
          simp [Deps, Dep, at_, Is] at hD
          go_simp
          exact hK _ _ (Grew.refl _) rfl
        refine ⟨fun a_ wx hR hD K hK => ?_, ?_⟩
        · have hG : Grew W2 wx := (Grew.drew _).trans hR
          simp [Deps, Dep, at_, Is] at hD
          have e_ := CL.out wx hG
          go_simp
          exact hK _ _ (Grew.refl _) rfl
        refine ⟨fun a_ wx hR hD K hK => ?_, ?_⟩
        · have hG : Grew W2 wx := (Grew.drew _).trans hR
          simp [Deps, Dep, at_, Is] at hD
          have e0 := (CB.out wx hG).1
          have e1 := (CB.out wx hG).2
          go_simp
          exact hK _ _ (Grew.refl _) rfl
        refine ⟨fun a_ wx hR hD K hK => ?_, ?_⟩
        · have hG : Grew W2 wx := (Grew.drew _).trans hR
          simp [Deps, Dep, at_, Is] at hD
          go_simp
          exact hK _ _ (Grew.alloc _ _) (OneC.new (fun k hk => Nat.lt_of_lt_of_le (hlr k hk) hG.size))
        refine ⟨⟨rfl, fun a_ wx hR hD K hK => ?_⟩, ?_⟩
        · have hG : Grew W2 wx := (Grew.drew _).trans hR
          simp [Deps, Dep, at_, Is] at hD
          obtain ⟨hd0, hd1⟩ := hD
          obtain ⟨g1, h1, h2, h3⟩ := hd1
          obtain ⟨v1, wy, hrun, hown1, hgr1, hat1⟩ := app_cells (P := Try.prog) wx w.heap.size 36 64 36 (.agg #[.int .u32 0, .string ⟨#[]⟩]) 2 24 Try.underlying36 infoSg rfl (by decide) (by decide) _ pre.length (sgs pre) g1 [.int .u32 x.f0, .string x.f1] rfl (by intro v hv; simp at hv; rcases hv with rfl | rfl <;> rfl) (pw_own_below HO.out hG) h2 (Nat.le_trans hBs hG.size) (by omega)
          exact wp_app (.tmp 24) (.tmp 26) 36 rfl (eval_tmp hd0) (eval_tmp h1) hrun (hK _ _ hgr1 ⟨hown1, hat1.imp id (fun h => ⟨_, h.choose_spec.1, Nat.le_trans hG.size h.choose_spec.2⟩)⟩)
        trivial
      · show EndHold _ _ _ _ _ _ _
        intro v26
        intro v27
        refine end_all (xs := [_, _, _, _, _, _]) ⟨rfl, rfl, rfl, rfl, rfl, rfl, trivial⟩ ?_
        rintro w3 hR1 ⟨⟨-, hOne⟩, hApp⟩
        refine ⟨?_⟩
        obtain ⟨wm_w3, hRm, hP_w3⟩ := hR1
        have hG_w3 : Grew W2 wm_w3 := (Grew.drew _).trans hRm
        clear hRm
        simp only [Act.put, List.setIfInBounds_toArray, List.set_cons_succ, List.set_cons_zero, dropN, putEach]
        obtain ⟨hro, hat⟩ := hApp
        obtain ⟨A4, c4, rfl⟩ := own_slice hro
        have hu3 : Upd (fun k => (Value.slice Ar pre.length cr).ownBlock = some k) W2 w3 := (Upd.of_grew hG_w3).grown hP_w3 fun k hk => .inl hk
        have hI4 := HI2.out.app hu3 hro hat
        have hne3 := HI2.out.ne.2.2
        have hcl3 := HI2.out.cells.upd hu3 hne3
        have hbl3 := HBL.out.upd hu3 (fun hk => by have := hlr0 g hk; omega)
        have q0 := hcl3.at_ 0
        have f0 := hcl3.fz 0
        simp only [List.getElem?_cons_zero] at q0
        have hgp : g ≠ p := fun e => by
          have h1 := HBL.out; have h2 := HI2.out.cells
          unfold Blk at h1 h2
          rw [e, h2] at h1
          simp at h1
        obtain ⟨W4, hW4⟩ : ∃ W4, W4 = w3.setCell ⟨p, 0, none⟩ (.slice A4 (pre.length + 1) c4) := ⟨_, rfl⟩
        rw [← hW4] at hI4
        have hset : Upd (fun k => k = p) w3 W4 := by rw [hW4]; exact Upd.set (S := fun k => k = p) (p := ⟨p, 0, none⟩) (Upd.refl _ _) (.inl rfl) _
        have hbl4 := hbl3.upd hset hgp
        have hu4 : Upd (fun k => w.heap.size ≤ k) w W4 := (Upd.of_grew HG2.out).trans ((hu3.mono fun k _ hk => own_base HO.out k hk).trans (hset.mono fun k _ hk => by rw [hk]; exact hI4.hp))
        have HW4 := Lib.hid hW4
        have HHN := Lib.hid hne3
        clear hro hat hu3 hcl3 hbl3 hset hlr hlr0 hP_w3 hG_w3 hOne hBs hW4 hne3 hgp
        go_wp2_with fail
        rw [← HW4.out]
        clear q0 f0
        have hpl : (pre.length : Int) ≤ 1024 := by omega
        obtain ⟨v, zs, hlk, hdat, hoi, hzl, hback, hsh⟩ := groups_at hI4.grp keyG Try.underlying76 zeroG (by unfold maxLen; omega) (Maps.keyOf_int_mk Try.underlying62 HWX.out)
        have hmlt := groups_lt hI4.grp
        have hpv := own_ne hoi.1 hI4.cells (by decide)
        have hgv := own_ne hoi.1 hbl4 (by decide)
        have hvlt := own_lt hoi.1
        have hB4 : w.heap.size + 1 ≤ W4.heap.size := hmlt.1
        have CM := Lib.hid (show ∀ wx, (Grew W4 wx ∨ ∃ w1, Grew W4 w1 ∧ w1.grownBy wx v.ownBlock) → wx.cell? ⟨p, 1, none⟩ = some (.map (some w.heap.size)) from fun wx h => by rw [(hI4.cells.upd (late_upd h) (fun e => hpv e.symm)).at_]; rfl)
        have CW := Lib.hid (show ∀ wx, (Grew W4 wx ∨ ∃ w1, Grew W4 w1 ∧ w1.grownBy wx v.ownBlock) → wx.cell? ⟨g, 0, none⟩ = some (.int .u32 x.f0) from fun wx h => by rw [(hbl4.upd (late_upd h) (fun e => hgv e.symm)).at_]; rfl)
        have CK := Lib.hid (show ∀ wx, Grew W4 wx → (Instr.lookup 76 (.map (some w.heap.size)) (.int .u32 x.f0) false).run Try.prog wx = .ok v wx from fun wx h => hlk wx (h.block _ hmlt.1))
        have HOI := Lib.hid hoi
        have HI4 := Lib.hid hI4
        have HU4 := Lib.hid hu4
        have HDA := Lib.hid hdat
        have HBK := Lib.hid hback
        have hzl2 : zs.length ≤ 1024 := by omega
        clear hI4 hlk hdat hoi hback hsh hbl4 hu4 hpv hgv hmlt
        apply region_bigF (fun w w' => w.grownBy w' v.ownBlock) [.float, .float, .float, .float, .float, .float, .plain, .plain, .plain, .plain, .plain, .plain, .plain, .plain, .plain, .big] [Is _, Is _, Is _, Is _, Is _, Is _, Is _, Is _, Is _, Is _, Is _, Is _, Is _, Is _, OneC 3 [.int .i64 (pre.length : Int)] v, AppS (w.heap.size + 1) 3 1 (zs.map (Value.int .i64) ++ [.int .i64 (pre.length : Int)]) (zs.length + 1) v W4.heap.size] [([(3, none)], none), ([(30, some 0)], none), ([(31, some 1)], none), ([(32, some 2)], none), ([(5, none)], none), ([(34, some 4)], none), ([(3, none)], none), ([(36, some 6)], none), ([(37, some 7)], none), ([(38, some 8)], none), ([(5, none)], none), ([(40, some 10)], none), ([(39, some 9), (41, some 11)], none), ([(4, none)], none), ([(43, some 13)], none), ([(42, some 12), (44, some 14)], none)] [(44, 14), (45, 15), (30, 0), (31, 1), (32, 2), (33, 3), (34, 4), (35, 5), (36, 6), (37, 7), (38, 8), (39, 9), (40, 10), (41, 11), (42, 12), (43, 13)] rfl (by kernel_rfl) (by kernel_rfl) (by kernel_rfl) (by kernel_rfl) rfl (show StableB Grew _ _ _ from ⟨(fun _ => Is.stableB _), (fun _ => Is.stableB _), (fun _ => Is.stableB _), (fun _ => Is.stableB _), (fun _ => Is.stableB _), (fun _ => Is.stableB _), (fun _ => Is.stableB _), (fun _ => Is.stableB _), (fun _ => Is.stableB _), (fun _ => Is.stableB _), (fun _ => Is.stableB _), (fun _ => Is.stableB _), (fun _ => Is.stableB _), (fun _ => Is.stableB _), (fun _ => OneC.stableB _ _ _), (fun h_ => absurd rfl h_), trivial⟩)
        · show PhHoldF _ _ _ _ _ _ _ _ _ _ _
          refine ⟨fun a_ wx hRL hD K hK => ?_, ?_⟩
          · have hF_ := True.intro
            have hRL : Grew W4 wx ∨ ∃ w1_, Grew W4 w1_ ∧ (fun w w' => w.grownBy w' v.ownBlock) w1_ wx := hRL.elim (fun h_ => .inl ((Grew.drew _).trans h_)) (fun h_ => .inr ⟨h_.choose, (Grew.drew _).trans h_.choose_spec.1, h_.choose_spec.2⟩)
            simp [Deps, Dep, at_, Is] at hD
            go_simp
            exact hK _ _ rfl rfl
          refine ⟨fun a_ wx hRL hD K hK => ?_, ?_⟩
          · have hF_ := True.intro
            have hRL : Grew W4 wx ∨ ∃ w1_, Grew W4 w1_ ∧ (fun w w' => w.grownBy w' v.ownBlock) w1_ wx := hRL.elim (fun h_ => .inl ((Grew.drew _).trans h_)) (fun h_ => .inr ⟨h_.choose, (Grew.drew _).trans h_.choose_spec.1, h_.choose_spec.2⟩)
            simp [Deps, Dep, at_, Is] at hD
            go_simp
            exact hK _ _ rfl rfl
          refine ⟨fun a_ wx hRL hD K hK => ?_, ?_⟩
          · have hF_ := True.intro
            have hRL : Grew W4 wx ∨ ∃ w1_, Grew W4 w1_ ∧ (fun w w' => w.grownBy w' v.ownBlock) w1_ wx := hRL.elim (fun h_ => .inl ((Grew.drew _).trans h_)) (fun h_ => .inr ⟨h_.choose, (Grew.drew _).trans h_.choose_spec.1, h_.choose_spec.2⟩)
            simp [Deps, Dep, at_, Is] at hD
            go_simp
            exact hK _ _ rfl rfl
          refine ⟨fun a_ wx hRL hD K hK => ?_, ?_⟩
          · have hF_ := True.intro
            have hRL : Grew W4 wx ∨ ∃ w1_, Grew W4 w1_ ∧ (fun w w' => w.grownBy w' v.ownBlock) w1_ wx := hRL.elim (fun h_ => .inl ((Grew.drew _).trans h_)) (fun h_ => .inr ⟨h_.choose, (Grew.drew _).trans h_.choose_spec.1, h_.choose_spec.2⟩)
            simp [Deps, Dep, at_, Is] at hD
            have e_ := CM.out wx hRL
            go_simp
            exact hK _ _ rfl rfl
          refine ⟨fun a_ wx hRL hD K hK => ?_, ?_⟩
          · have hF_ := True.intro
            have hRL : Grew W4 wx ∨ ∃ w1_, Grew W4 w1_ ∧ (fun w w' => w.grownBy w' v.ownBlock) w1_ wx := hRL.elim (fun h_ => .inl ((Grew.drew _).trans h_)) (fun h_ => .inr ⟨h_.choose, (Grew.drew _).trans h_.choose_spec.1, h_.choose_spec.2⟩)
            simp [Deps, Dep, at_, Is] at hD
            go_simp
            exact hK _ _ rfl rfl
          refine ⟨fun a_ wx hRL hD K hK => ?_, ?_⟩
          · have hF_ := True.intro
            have hRL : Grew W4 wx ∨ ∃ w1_, Grew W4 w1_ ∧ (fun w w' => w.grownBy w' v.ownBlock) w1_ wx := hRL.elim (fun h_ => .inl ((Grew.drew _).trans h_)) (fun h_ => .inr ⟨h_.choose, (Grew.drew _).trans h_.choose_spec.1, h_.choose_spec.2⟩)
            simp [Deps, Dep, at_, Is] at hD
            have e_ := CW.out wx hRL
            go_simp
            exact hK _ _ rfl rfl
          refine ⟨fun a_ wx hR hD K hK => ?_, ?_⟩
          · have hG : Grew W4 wx := (Grew.drew _).trans hR
            simp [Deps, Dep, at_, Is] at hD
            go_simp
            exact hK _ _ (Grew.refl _) rfl
          refine ⟨fun a_ wx hR hD K hK => ?_, ?_⟩
          · have hG : Grew W4 wx := (Grew.drew _).trans hR
            simp [Deps, Dep, at_, Is] at hD
            go_simp
            exact hK _ _ (Grew.refl _) rfl
          refine ⟨fun a_ wx hR hD K hK => ?_, ?_⟩
          · have hG : Grew W4 wx := (Grew.drew _).trans hR
            simp [Deps, Dep, at_, Is] at hD
            go_simp
            exact hK _ _ (Grew.refl _) rfl
          refine ⟨fun a_ wx hR hD K hK => ?_, ?_⟩
          · have hG : Grew W4 wx := (Grew.drew _).trans hR
            simp [Deps, Dep, at_, Is] at hD
            have e_ := CM.out wx (.inl hG)
            go_simp
            exact hK _ _ (Grew.refl _) rfl
          refine ⟨fun a_ wx hR hD K hK => ?_, ?_⟩
          · have hG : Grew W4 wx := (Grew.drew _).trans hR
            simp [Deps, Dep, at_, Is] at hD
            go_simp
            exact hK _ _ (Grew.refl _) rfl
          refine ⟨fun a_ wx hR hD K hK => ?_, ?_⟩
          · have hG : Grew W4 wx := (Grew.drew _).trans hR
            simp [Deps, Dep, at_, Is] at hD
            have e_ := CW.out wx (.inl hG)
            go_simp
            exact hK _ _ (Grew.refl _) rfl
          refine ⟨fun a_ wx hR hD K hK => ?_, ?_⟩
          · have hG : Grew W4 wx := (Grew.drew _).trans hR
            simp [Deps, Dep, at_, Is] at hD
            obtain ⟨hd0, hd1⟩ := hD
            have e_ := CK.out wx hG
            go_simp
            exact hK _ _ (Grew.refl _) rfl
          refine ⟨fun a_ wx hR hD K hK => ?_, ?_⟩
          · have hG : Grew W4 wx := (Grew.drew _).trans hR
            simp [Deps, Dep, at_, Is] at hD
            go_simp
            exact hK _ _ (Grew.refl _) rfl
          refine ⟨fun a_ wx hR hD K hK => ?_, ?_⟩
          · have hG : Grew W4 wx := (Grew.drew _).trans hR
            simp [Deps, Dep, at_, Is] at hD
            go_simp
            exact hK _ _ (Grew.alloc _ _) (OneC.new (fun k hk => Nat.lt_of_lt_of_le (hvlt k hk) hG.size))
          refine ⟨⟨rfl, fun a_ wx hR hD K hK => ?_⟩, ?_⟩
          · have hG : Grew W4 wx := (Grew.drew _).trans hR
            simp [Deps, Dep, at_, Is] at hD
            obtain ⟨hd0, hd1⟩ := hD
            obtain ⟨g1, h1, h2, h3⟩ := hd1
            obtain ⟨v1, wy, hrun, hown1, hgr1, hat1⟩ := app_cells (P := Try.prog) wx (w.heap.size + 1) 79 3 79 (.int .i64 0) 1 8 Try.underlying79 infoI rfl (by decide) (by decide) v zs.length (zs.map (Value.int .i64)) g1 [.int .i64 (pre.length : Int)] rfl (by intro v hv; simp at hv; rcases hv with rfl; rfl) (pw_own_below HOI.out.1 hG) h2 (by have := hG.size; omega) (by omega)
            exact wp_app (.tmp 42) (.tmp 44) 79 rfl (eval_tmp hd0) (eval_tmp h1) hrun (hK _ _ hgr1 ⟨hown1, hat1.imp id (fun h => ⟨_, h.choose_spec.1, Nat.le_trans hG.size h.choose_spec.2⟩)⟩)
          trivial
        · show EndHold _ _ _ _ _ _ _
          intro v44
          intro v45
          refine end_all (xs := [_, _, _, _, _, _, _, _, _, _, _, _, _, _]) ⟨rfl, rfl, rfl, rfl, rfl, rfl, rfl, rfl, rfl, rfl, rfl, rfl, rfl, rfl, trivial⟩ ?_
          rintro w5 hR1 ⟨⟨-, hOne⟩, hApp⟩
          refine ⟨?_⟩
          obtain ⟨wm_w5, hRm, hP_w5⟩ := hR1
          have hG_w5 : Grew W4 wm_w5 := (Grew.drew _).trans hRm
          clear hRm
          simp only [Act.put, List.setIfInBounds_toArray, List.set_cons_succ, List.set_cons_zero, dropN, putEach]
          obtain ⟨hown5, hat5⟩ := hApp
          have hgr5 : W4.grownBy w5 v.ownBlock := World.grownBy.trans ((Upd.of_grew (S := fun _ => False) hG_w5).grownBy_none v.ownBlock) hP_w5
          obtain ⟨w6, D6, hrun6, hI6, hu6⟩ := HI4.out.put (by omega) HWX.out HDA.out HOI.out hzl HBK.out hgr5 hown5 hat5
          have hu6' := HU4.out.trans hu6
          have HI6 := Lib.hid hI6
          have HU6 := Lib.hid hu6'
          have HR6 := Lib.hid hrun6
          clear hown5 hat5 hgr5 hI6 hu6 hu6' hrun6 hOne hP_w5 hG_w5 hvlt hzl hzl2 hB4
          refine wpList_mapUpdate_run rfl _ _ _ _ rfl rfl rfl rfl HR6.out ?_
          go_wp2_with fail
          go_roundw
          case rel => exact ⟨pre ++ [x], suf, _, D6, by simp, HP.out, HI6.out, HU6.out.grew (fun i hi h => by omega)⟩
          case measure => simp [intOf]; omega
end Go.Proofs.Ytimcafohmahapaa.F

-- DelK
namespace Go.Proofs.Ytimcafohmahapaa.F
open Go Go.RowKit Go.Proofs.YtimcafohmahapaaW.PrintWords Go.Proofs.YtimcafohmahapaaW.PrintLast Go.Proofs.YtimcafohmahapaaW.PrintMore Go.Proofs.YtimcafohmahapaaM Go.Proofs.YtimcafohmahapaaR
open Go.ChangeShapes
attribute [local go_sem] max2_int min2_int max_two min_two
set_option linter.unusedSimpArgs false
set_option linter.unusedVariables false
set_option maxRecDepth 100000
theorem C_takeS {α : Type} {K : Kd α} {w : World} {A : Option Addr} {n m : Nat} {l : List α} (h : Kd.C K w A n l) (hm : m ≤ n) : Kd.C K w A m (l.take m) := by
  obtain ⟨hl, hx, hc⟩ := h
  refine ⟨by rw [List.length_take, hl]; omega, by omega, fun hp => ?_⟩
  obtain ⟨ad, hA, hcell⟩ := hc (by omega)
  refine ⟨ad, hA, fun j p hj => hcell j p ?_⟩
  rw [List.getElem?_take] at hj
  split at hj
  · exact hj
  · cases hj
theorem u32wf {x : Int} (h0 : 0 ≤ x) (h1 : x < 4294967296) : (Lit.int .u32 x).wf = true := by
  simp [Lit.wf, IntKind.min, IntKind.max, IntKind.bits, IntKind.signed]; omega
theorem eqSgn (d : Nat) (w : World) (x0 : Int) (x1 : ByteArray) (y0 : Int) (y1 : ByteArray) :
    (Op.equalIn (d + 2) 64 (.agg #[.int .u32 x0, .string x1]) (.agg #[.int .u32 y0, .string y1])).run Try.prog w = .ok (x0 == y0 && (x1.toList == y1.toList)) w := by
  refine eqA_of Try.underlying64 (by kernel_rfl) ?_
  refine eqf_cons (by rfl) (by go_simp; rfl) (by go_simp; rfl) (by go_simp) ?_
  exact eqf_last (by rfl) (by go_simp; rfl) (by go_simp; rfl) (by go_simp)
theorem eq_isS (s x : Sg) : (s.f0 == x.f0 && (s.f1.toList == x.f1.toList)) = isS s x := by
  unfold isS
  rw [Bool.eq_iff_iff]
  simp only [Bool.and_eq_true, beq_iff_eq, decide_eq_true_eq, tl_iff]
  exact ⟨fun h => ⟨h.1.symm, h.2.symm⟩, fun h => ⟨h.1.symm, h.2.symm⟩⟩
theorem bytesOf_win (t : ByteArray) (i m : Nat) (h : i + m ≤ t.size) : bytesOf (t.extract i (i + m)) = ((bytesOf t).drop i).take m := by
  rw [strN_extractD t i (i + m) h, bytesOf_str (fun x hx => bytesOf_byte t x (List.mem_of_mem_take (List.mem_of_mem_drop hx))), List.drop_take, Nat.add_sub_cancel_left]
theorem bt_byteAt (t : ByteArray) (i : Nat) (h : i < t.size) : bt t (i : Int) = byteAt (bytesOf t) i := by
  rw [bt_at' t i h, byteAt_eq _ _ (by rw [bytesOf_length]; exact h)]
theorem roll_on (t : ByteArray) (i m : Nat) (hm : 1 ≤ m) (h : i + m < t.size) : next (weak (bytesOf (t.extract i (i + m)))) (m : Int) (bt t (i : Int)) (bt t ((i : Int) + (m : Int))) = weak (bytesOf (t.extract (i + 1) (i + 1 + m))) := by
  rw [bytesOf_win t i m (by omega), bytesOf_win t (i + 1) m (by omega), bt_byteAt t i (by omega), show (i : Int) + (m : Int) = ((m + i : Nat) : Int) from by omega, bt_byteAt t (m + i) (by omega)]
  exact window_step (bytesOf t) m i hm (by rw [bytesOf_length]; omega)
theorem bysD_len (l : List Pc) (s : ByteArray) : (bysD l s).length ≤ l.length + 1 := by
  unfold bysD
  split
  · rw [List.length_set]; omega
  · rw [List.length_append]; simp
theorem bysD_size {l : List Pc} {s : ByteArray} {m : Nat} (h : ∀ p ∈ l, p.f2.size ≤ m) (hs : s.size = 1) : ∀ p ∈ bysD l s, p.f2.size ≤ m + 1 := by
  intro p hp
  unfold bysD at hp
  split at hp
  · rename_i hc
    rcases List.mem_or_eq_of_mem_set hp with hp | rfl
    · have := h p hp; omega
    · simp only [ByteArray.size_append, hs]
      have hmem : l.getD (l.length - 1) z43 ∈ l := by
        rw [List.getD_eq_getElem?_getD, List.getElem?_eq_getElem (by omega)]
        exact List.getElem_mem _
      have := h _ hmem
      omega
  · rcases List.mem_append.1 hp with hp | hp
    · have := h p hp; omega
    · obtain rfl := List.mem_singleton.1 hp
      simp only; omega
theorem slice_win (t : ByteArray) (i m : Nat) (h : i + m ≤ t.size) (w : World) : (Instr.slice 9 (.string t) (some (.int .i64 (i : Int))) (some (.int .i64 ((i : Int) + (m : Int)))) none).run Try.prog w = .ok (.string (t.extract i (i + m))) w := by
  rw [run_slice_string w 9 t .i64 .i64 _ _ Try.underlying9 (by omega) (by omega) (by omega), Int.toNat_natCast, show ((i : Int) + (m : Int)).toNat = i + m from by omega]
theorem slice_tail (t : ByteArray) (i : Nat) (h : i ≤ t.size) (w : World) : (Instr.slice 9 (.string t) (some (.int .i64 (i : Int))) none none).run Try.prog w = .ok (.string (t.extract i t.size)) w := by
  rw [run_slice_string_from_if w 9 t .i64 _ Try.underlying9, if_pos ⟨by omega, by omega⟩, Int.toNat_natCast]
theorem index_bt (t : ByteArray) (i : Nat) (h : i < t.size) (w : World) : (Instr.index 9 (.string t) (.int .i64 (i : Int))).run Try.prog w = .ok (.int .u8 (bt t (i : Int))) w := by
  rw [run_index_string w 9 t .i64 _ Try.underlying9, dif_pos ⟨by omega, by omega⟩]
  unfold bt
  rw [dif_pos (by rw [Int.toNat_natCast]; exact h)]
theorem sum_bytes (W : World) (b : ByteArray) (nb : Nat) (hnb : b.size = nb) (hb : nb ≤ 10000000) :
    Calls Try.prog 31 #[.slice (some ⟨W.heap.size, 0, none⟩) nb (grownCap W nb 0 5)] (Lib.bytesWorld W 5 b) (Tells (Lib.bytesWorld W 5 b) (Is (.int .u32 (weak (bytesOf b))))) := by
  have h2 := roll_c (some ⟨W.heap.size, 0, none⟩) (grownCap W nb 0 5) (bytesOf b) (Lib.bytesWorld W 5 b) (C_of (by
    have h := bytes_reads W 5 b (by omega)
    rw [← bytesOf_length] at h; exact h)) (by rw [bytesOf_length, hnb]; exact grownCap_ge _ _ _ _) (by rw [bytesOf_length]; omega) (bytesOf_bytes b)
  rw [bytesOf_length, hnb] at h2
  exact h2
theorem bytesWorld_grew (W : World) (b : ByteArray) : Grew W (Lib.bytesWorld W 5 b) := bytes_below (Below.refl _ _) (Nat.le_refl _) _ _
set_option maxHeartbeats 16000000 in
theorem make_c (w : World) (key t : ByteArray) (sg : List Sg) (A : Option Addr) (c size last : Nat) (hr : Kd.C k64 w A sg.length sg) (hc : sg.length ≤ c) (hs1 : 1 ≤ size) (hs2 : size ≤ 128) (hla : last ≤ size) (hz : last = 0 ↔ sg.length = 0) (ht : t.size ≤ 1024) (hl : sg.length ≤ 1024) (hk : key.size ≤ 10000000) (hwf : ∀ x ∈ sg, (Lit.int .u32 x.f0).wf = true) :
    Calls Try.prog 17 #[.string key, .slice A sg.length c, .int .i64 (size : Int), .int .i64 (last : Int), .string t] w (Tells w (DecT (mkD key sg size last t (t.size + 1) 0 [], 0))) := by
  obtain ⟨R, hR⟩ : ∃ R, R = mkD key sg size last t (t.size + 1) 0 [] := ⟨_, rfl⟩
  rw [← hR]
  have HRE := Lib.hid hR
  have HN1 := Lib.hid (fun wx (h : Grew w wx) => inew_c wx A sg.length c sg (Kd.C_below hr h) rfl hc hwf)
  have HN2 := Lib.hid (fun wx (h : Grew w wx) => inew_c wx A (sg.length - 1) c (sg.take (sg.length - 1)) (C_takeS (Kd.C_below hr h) (by omega)) (by rw [List.length_take]; omega) (by omega) (fun x hx => hwf x (List.mem_of_mem_take hx)))
  have HR := Lib.hid (fun wx (h : Grew w wx) => Kd.C_below hr h)
  have e10 : sg.take 1024 = sg := List.take_of_length_le hl
  have e11 : (sg.take (sg.length - 1)).take 1024 = sg.take (sg.length - 1) := List.take_of_length_le (by rw [List.length_take]; omega)
  rw [e10] at HN1
  rw [e11] at HN2
  obtain ⟨n, hn⟩ : ∃ n, n = sg.length := ⟨_, rfl⟩
  have HN := Lib.hid hn
  obtain ⟨W, hW⟩ : ∃ W, W = wholeS sg size last := ⟨_, rfl⟩
  have HW := Lib.hid hW
  have hwl : W.length ≤ 1024 := by rw [hW]; unfold wholeS; split <;> (try rw [List.length_take]) <;> omega
  have hWf : ∀ x ∈ W, (Lit.int .u32 x.f0).wf = true := by
    intro x hx
    rw [hW] at hx
    unfold wholeS at hx
    split at hx
    · exact hwf x (List.mem_of_mem_take hx)
    · exact hwf x hx
  have HWL := Lib.hid hwl
  rw [← hn] at HN1 HN2 HR hc hl hz ⊢
  obtain ⟨T, hT⟩ : ∃ T, T = t.size := ⟨_, rfl⟩
  have HT := Lib.hid hT
  have hT' := hT.symm
  rw [← hT] at ht HRE
  obtain ⟨z, z1, z2, z3, z4, z5, z6⟩ : ∃ z, ((last : Int) == 0) = z ∧ ((n : Int) == 0) = z ∧ (last == 0) = z ∧ (n == 0) = z ∧ decide (last = 0) = z ∧ decide (n = 0) = z := by
    by_cases h : last = 0
    · have := hz.1 h
      exact ⟨true, by simp [h], by simp [this], by simp [h], by simp [this], by simp [h], by simp [this]⟩
    · have h2 : ¬ n = 0 := fun h2 => h (hz.2 h2)
      exact ⟨false, by simp [h], by simp [h2], by simp [h], by simp [h2], by simp [h], by simp [h2]⟩
  have d1 : decide ((size : Int) < 1) = false := decide_eq_false (by omega)
  have d2 : decide (128 < (size : Int)) = false := decide_eq_false (by omega)
  have d3 : decide ((last : Int) < 0) = false := decide_eq_false (by omega)
  have d4 : decide ((size : Int) < (last : Int)) = false := decide_eq_false (by omega)
  have d5 : decide (1024 < (T : Int)) = false := decide_eq_false (by omega)
  have d6 : decide (1024 < (n : Int)) = false := decide_eq_false (by omega)
  have d1' : decide (size < 1) = false := decide_eq_false (by omega)
  have d2' : decide (128 < size) = false := decide_eq_false (by omega)
  have d4' : decide (size < last) = false := decide_eq_false (by omega)
  have d5' : decide (1024 < T) = false := decide_eq_false (by omega)
  have d6' : decide (1024 < n) = false := decide_eq_false (by omega)
  have HZN := Lib.hid hz
  clear hr hR hn hW hwl hT hz hwf e10 e11
  go_enter Try.func17, Try.ntmps17
  go_wp2_with fail
  go_step3
  go_wp2_with fail
  refine (HN1.out w (Grew.refl _)).mono ?_
  rintro e w1 ⟨_, rfl, ⟨p1, lv1, b1, base1, D1, rfl, hI1⟩, hg1⟩
  clear d1 d2 d3 d4 d5 d6 d1' d2' d4' d5' d6' z1 z2 z3 z4 z5 z6
  have HI1 := Lib.hid hI1
  have HG1 := Lib.hid hg1
  clear hI1 hg1
  obtain ⟨bw, hbw⟩ : ∃ bw : Bool, bw = decide (last < size ∧ 0 < n) := ⟨_, rfl⟩
  have HBW := Lib.hid hbw
  clear hbw
  go_upto_region 6 with fail
  go_cut [59] from 19 (fun v59 wc => v59 = .bool bw ∧ wc = w1)
  case first =>
    by_cases h1 : last < size
    · have d1 : decide ((last : Int) < (size : Int)) = true := decide_eq_true (by omega)
      have d1' : decide (last < size) = true := decide_eq_true h1
      by_cases h2 : 0 < n
      · have d2 : decide (0 < (n : Int)) = true := decide_eq_true (by omega)
        have d2' : decide (0 < n) = true := decide_eq_true h2
        go_wp2_with fail
        go_meet
        case rel => exact ⟨by rw [HBW.out, decide_eq_true ⟨h1, h2⟩], rfl⟩
      · have d2 : decide (0 < (n : Int)) = false := decide_eq_false (by omega)
        have d2' : decide (0 < n) = false := decide_eq_false h2
        go_wp2_with fail
        go_meet
        case rel => exact ⟨by rw [HBW.out, decide_eq_false (fun h => h2 h.2)], rfl⟩
    · have d1 : decide ((last : Int) < (size : Int)) = false := decide_eq_false (by omega)
      have d1' : decide (last < size) = false := decide_eq_false h1
      go_wp2_with fail
      go_meet
      case rel => exact ⟨by rw [HBW.out, decide_eq_false (fun h => h1 h.1)], rfl⟩
  case rest =>
    obtain ⟨rfl, rfl⟩ := hcut
    go_upto_if 59 with fail
    go_cut [12] from 19 (fun v12 wc => ∃ (p lvB : Nat) (lv : Value) (b base : Nat) (D : DataW Unit), v12 = .pointer (some ⟨p, 0, none⟩) ∧ Idx lvB p W W lv b base D wc ∧ Grew w wc)
    case first =>
      cases bw with
      | true =>
        have h1 : last < size ∧ 0 < n := of_decide_eq_true HBW.out.symm
        have hWe : W = sg.take (n - 1) := by rw [HW.out]; unfold wholeS; rw [← HN.out, if_pos h1]
        obtain ⟨m, hm⟩ : ∃ m, m = n - 1 := ⟨_, rfl⟩
        have HN2 := HN2.out wc HG1.out
        rw [← hm] at HN2 hWe
        have wm : IntKind.i64.wrap ((n : Int) - 1) = (m : Int) := by rw [IntWalk.i64_in _ (by omega)]; omega
        have mc : (m : Int) ≤ (c : Int) := by omega
        have mc' : m ≤ c := by omega
        have hnm : (n : Int) - 1 = (m : Int) := by omega
        have HN3 := Lib.hid HN2
        clear HN2 hm h1
        go_wp2_with fail
        refine HN3.out.mono ?_
        rintro e w2 ⟨_, rfl, ⟨p2, lv2, b2, base2, D2, rfl, hI2⟩, hg2⟩
        have HI2 := Lib.hid hI2
        have HG2 := Lib.hid hg2
        clear hI2 hg2
        go_wp2_with fail
        go_meet
        case rel => exact ⟨p2, _, lv2, b2, base2, D2, rfl, by rw [hWe]; exact HI2.out, Grew.trans HG1.out HG2.out⟩
      | false =>
        have h1 : ¬ (last < size ∧ 0 < n) := of_decide_eq_false HBW.out.symm
        have hWe : W = sg := by rw [HW.out]; unfold wholeS; rw [← HN.out, if_neg h1]
        go_wp2_with fail
        go_meet
        case rel => exact ⟨p1, _, lv1, b1, base1, D1, rfl, by rw [hWe]; exact HI1.out, HG1.out⟩
    case rest =>
      obtain ⟨p, lvB, lv, b, base, D, rfl, hI, hg⟩ := hcut
      have HI := Lib.hid (fun wx (h : Grew wc wx) => hI.grew h)
      have HGC := Lib.hid (fun wx (h : Grew wc wx) => Grew.trans hg h)
      obtain ⟨B0, hB0⟩ : ∃ B0, B0 = wc.heap.size := ⟨_, rfl⟩
      have HBZ := Lib.hid (fun wx (h : Grew wc wx) => show B0 ≤ wx.heap.size from by rw [hB0]; exact h.size)
      have HUPG := Lib.hid (fun (wx wy : World) (S : Nat → Prop) (h : Grew wc wx) (hu : Upd S wx wy) (hS : ∀ k, S k → B0 ≤ k) => show Grew wc wy from ((Upd.of_grew (S := S) h).trans hu).grew (fun j hj e => by have := hS j e; omega))
      clear hI hg hB0
      go_wp2_with fail
      go_step3
      go_wp2_with fail
      go_loopw [13, 14, 15, 16] (fun v13 v14 v15 iv wr => ∃ (i f : Nat) (acc : List Pc) (sum : Int) (kn : Bool), iv = .int .i64 (i : Int) ∧ i ≤ T ∧ v14 = .int .u32 sum ∧ v15 = .bool kn ∧ T < i + f ∧ mkD key sg size last t f i acc = R ∧ RowO wr B0 43 3 v13 acc.length (pcs acc) ∧ acc.length ≤ i ∧ (∀ p ∈ acc, p.f2.size ≤ i) ∧ 0 ≤ sum ∧ sum < 4294967296 ∧ (kn = true → size ≤ T - i ∧ sum = weak (bytesOf (t.extract i (i + size)))) ∧ Grew wc wr) (fun _ _ _ iv _ => T - (intOf iv).toNat)
      case atStart => exact ⟨0, T + 1, [], 0, false, rfl, Nat.zero_le _, rfl, rfl, by omega, HRE.out.symm, rowO_nil _ _ _ _, Nat.zero_le _, fun p hp => by simp at hp, by omega, by omega, fun h => absurd h (by decide), Grew.refl _⟩
      case round =>
        obtain ⟨i, f, acc, sum, kn, rfl, hi, rfl, rfl, hf, hmk, hro, hal, hps, s0, s1, hkn, hgr⟩ := hrel
        obtain ⟨Av, cv, rfl, hcv⟩ := hro.slice
        have HMK := Lib.hid hmk
        have HRO := Lib.hid (fun wx (h : Grew wr wx) => hro.grew h)
        have HPS := Lib.hid hps
        have HKN := Lib.hid hkn
        have HGR := Lib.hid hgr
        obtain ⟨na, hna⟩ : ∃ na, na = acc.length := ⟨_, rfl⟩
        have HNA := Lib.hid hna
        rw [← hna] at HRO hal hcv ⊢
        clear hmk hro hps hkn hgr hna
        by_cases hlt : i < T
        · obtain ⟨f, rfl⟩ : ∃ q, f = q + 1 := ⟨f - 1, by omega⟩
          have d1 : decide ((i : Int) < (T : Int)) = true := decide_eq_true (by omega)
          have d2 : decide (i < T) = true := decide_eq_true hlt
          obtain ⟨rem, hrem⟩ : ∃ rem, rem = T - i := ⟨_, rfl⟩
          have hrem1 : (T : Int) - (i : Int) = (rem : Int) := by omega
          have wrem : IntKind.i64.wrap (rem : Int) = (rem : Int) := IntWalk.i64_in _ (by omega)
          have hrp : 0 < rem := by omega
          have HREM := Lib.hid hrem
          obtain ⟨bb, hbb⟩ : ∃ bb : Bool, bb = decide (size ≤ rem) := ⟨_, rfl⟩
          have b1' : decide (size ≤ rem) = bb := hbb.symm
          have b2' : decide ((size : Int) ≤ (rem : Int)) = bb := by rw [hbb]; exact decide_eq_decide.2 (by omega)
          have HBB := Lib.hid hbb
          -- what the model does when nothing is copied
          have hstep : ∀ x, mkD key sg size last t (f + 1) i acc = x → (size ≤ rem → (wholeS sg size last).findIdx? (isS (oneS key (t.extract i (i + size)))) = none) → (¬ size ≤ rem → ¬ (rem = last ∧ isS (oneS key (t.extract i t.size)) (sg.getD (sg.length - 1) z64) = true)) → mkD key sg size last t f (i + 1) (bysD acc (strOfNums [bt t (i : Int)])) = x := by
            intro x hx h1 h2
            rw [mkD, hT', if_pos hlt, ← hrem] at hx
            by_cases hs : size ≤ rem
            · rw [if_pos hs, h1 hs] at hx
              exact hx
            · rw [if_neg hs] at hx
              rw [hT'] at h2
              rw [if_neg (h2 hs)] at hx
              exact hx
          have HSTEP := Lib.hid (hstep R HMK.out)
          clear hrem hbb hstep
          go_upto_if 75 with fail
          go_cut [13, 14, 15, 16] from 70 to 162 (fun v13 v14 v15 v16 wc => ∃ (sum2 : Int) (kn2 : Bool), v13 = .slice Av na cv ∧ v16 = .int .i64 (i : Int) ∧ v14 = .int .u32 sum2 ∧ v15 = .bool kn2 ∧ 0 ≤ sum2 ∧ sum2 < 4294967296 ∧ (kn2 = true → size ≤ rem ∧ sum2 = weak (bytesOf (t.extract i (i + size)))) ∧ mkD key sg size last t f (i + 1) (bysD acc (strOfNums [bt t (i : Int)])) = R ∧ Grew wr wc)
          case first =>
            cases bb with
            | false =>
              have hnb : ¬ size ≤ rem := of_decide_eq_false HBB.out.symm
              have HME := Lib.hid (fun (h2 : ¬ (rem = last ∧ isS (oneS key (t.extract i t.size)) (sg.getD (sg.length - 1) z64) = true)) => HSTEP.out (fun h => absurd h hnb) (fun _ => h2))
              by_cases hrl : rem = last
              · have c1 : ((rem : Int) == (last : Int)) = true := by simp [hrl]
                have c2 : (rem == last) = true := by simp [hrl]
                have c3 : decide (rem = last) = true := decide_eq_true hrl
                have c4 : decide ((rem : Int) = (last : Int)) = true := decide_eq_true (by omega)
                have hnp : 0 < n := Nat.pos_of_ne_zero (fun h => by have := HZN.out.2 h; omega)
                obtain ⟨q, hq⟩ : ∃ q, q = n - 1 := ⟨_, rfl⟩
                have hq1 : (n : Int) - 1 = (q : Int) := by omega
                have wq : IntKind.i64.wrap (q : Int) = (q : Int) := IntWalk.i64_in _ (by omega)
                have q1 : (q : Int) < (n : Int) := by omega
                have q2 : q < n := by omega
                obtain ⟨TL, hTL⟩ : ∃ TL, TL = t.extract i t.size := ⟨_, rfl⟩
                have hslT := fun wx => slice_tail t i (by omega) wx
                rw [← hTL] at hslT
                have htls : TL.size ≤ 10000000 := by rw [hTL, ByteArray.size_extract]; omega
                have HON := Lib.hid (fun wx => one_c wx key TL hk htls)
                obtain ⟨sv0, hsv0⟩ : ∃ x, x = weak (bytesOf TL) := ⟨_, rfl⟩
                obtain ⟨sv1, hsv1⟩ : ∃ x, x = strongS key TL := ⟨_, rfl⟩
                rw [← hsv0, ← hsv1] at HON
                have hos : oneS key TL = ⟨sv0, sv1⟩ := by unfold oneS; rw [hsv0, hsv1]
                obtain ⟨ad, hA, k0, k1⟩ := at_T64 (HR.out wr (HGC.out wr HGR.out)) (q : Int) (by omega) q1
                have hrd : rd_T64 sg (q : Int) = sg.getD (sg.length - 1) z64 := by unfold rd_T64; rw [Int.toNat_natCast, ← HN.out, hq]
                obtain ⟨⟨x0, x1⟩, hx⟩ : ∃ x : Sg, x = sg.getD (sg.length - 1) z64 := ⟨_, rfl⟩
                rw [hrd, ← hx, Int.toNat_natCast] at k0 k1
                simp only at k0 k1
                subst hA
                obtain ⟨bq, hbq⟩ : ∃ bq, bq = isS (oneS key TL) ⟨x0, x1⟩ := ⟨_, rfl⟩
                have HEQ := Lib.hid (fun (w' : World) => show (Op.equalIn 10000 64 (.agg #[.int .u32 sv0, .string sv1]) (.agg #[.int .u32 x0, .string x1])).run Try.prog w' = .ok bq w' from by
                  have h9 := eqSgn 9998 w' sv0 sv1 x0 x1
                  rw [h9, hbq, hos, ← eq_isS])
                have HK := Lib.hid (fun wx (h : Grew wr wx) => And.intro (pw_cell_below h k0) (pw_cell_below h k1))
                have HSLT := Lib.hid hslT
                have HBQ := Lib.hid (show bq = isS (oneS key (t.extract i t.size)) (sg.getD (sg.length - 1) z64) from by rw [← hTL, ← hx]; exact hbq)
                have hmq : bq = true → R = acc ++ [⟨true, (q : Int), ⟨#[]⟩⟩] := by
                  intro hb
                  have hx := HMK.out
                  rw [mkD, hT', if_pos hlt, ← HREM.out, if_neg hnb, if_pos ⟨hrl, by rw [← hT', ← HBQ.out]; exact hb⟩, ← HN.out, ← hq] at hx
                  exact hx.symm
                have HMQ := Lib.hid hmq
                have HRL := Lib.hid hrl
                have htT : (t.extract i T) = TL := by rw [hTL, hT']
                clear hnp hq hTL hslT htls hsv0 hsv1 hos hrd hx hbq k0 k1 hmq hrl htT
                go_wp2_with fail
                clear c1 c2 c3 c4
                apply region_grew [Is _, Is _, Is _, Is _, Is _, Is _, Is _, Is _, Is _, Is _, Is _] [([(0, none)], none), ([(4, none)], none), ([(16, none)], none), ([(118, some 1), (119, some 2)], none), ([(117, some 0), (120, some 3)], none), ([(1, none)], none), ([(1, none)], none), ([(123, some 6)], none), ([(124, some 7)], none), ([(122, some 5), (125, some 8)], none), ([(126, some 9)], none)] [(117, 0), (118, 1), (119, 2), (120, 3), (121, 4), (122, 5), (123, 6), (124, 7), (125, 8), (126, 9), (127, 10)] rfl (by kernel_rfl) (by kernel_rfl) (show Stable Grew _ from ⟨Is.stable _, Is.stable _, Is.stable _, Is.stable _, Is.stable _, Is.stable _, Is.stable _, Is.stable _, Is.stable _, Is.stable _, Is.stable _, trivial⟩)
                · show OpsHold _ _ _ _ _ _ _ _ _
                  refine ⟨fun a_ wx hR hD K hK => ?_, ?_⟩
                  · have hG : Grew wr wx := (Grew.drew _).trans hR
                    simp [Deps, Dep, at_, Is] at hD
                    go_simp
                    exact hK _ _ (Grew.refl _) rfl
                  refine ⟨fun a_ wx hR hD K hK => ?_, ?_⟩
                  · have hG : Grew wr wx := (Grew.drew _).trans hR
                    simp [Deps, Dep, at_, Is] at hD
                    go_simp
                    exact hK _ _ (Grew.refl _) rfl
                  refine ⟨fun a_ wx hR hD K hK => ?_, ?_⟩
                  · have hG : Grew wr wx := (Grew.drew _).trans hR
                    simp [Deps, Dep, at_, Is] at hD
                    go_simp
                    exact hK _ _ (Grew.refl _) rfl
                  refine ⟨fun a_ wx hR hD K hK => ?_, ?_⟩
                  · have hG : Grew wr wx := (Grew.drew _).trans hR
                    simp [Deps, Dep, at_, Is] at hD
                    obtain ⟨hd0, hd1⟩ := hD
                    have e_ := HSLT.out wx
                    go_simp
                    exact hK _ _ (Grew.refl _) rfl
                  refine ⟨fun a_ wx hR hD K hK => ?_, ?_⟩
                  · have hG : Grew wr wx := (Grew.drew _).trans hR
                    simp [Deps, Dep, at_, Is] at hD
                    obtain ⟨hd0, hd1⟩ := hD
                    go_simp
                    have hcn := HON.out wx
                    with_reducible refine hcn.mono ?_
                    clear hcn
                    rintro e wy ⟨v, rfl, hv, hg⟩
                    exact hK _ _ hg hv
                  refine ⟨fun a_ wx hR hD K hK => ?_, ?_⟩
                  · have hG : Grew wr wx := (Grew.drew _).trans hR
                    simp [Deps, Dep, at_, Is] at hD
                    go_simp
                    exact hK _ _ (Grew.refl _) rfl
                  refine ⟨fun a_ wx hR hD K hK => ?_, ?_⟩
                  · have hG : Grew wr wx := (Grew.drew _).trans hR
                    simp [Deps, Dep, at_, Is] at hD
                    go_simp
                    exact hK _ _ (Grew.refl _) rfl
                  refine ⟨fun a_ wx hR hD K hK => ?_, ?_⟩
                  · have hG : Grew wr wx := (Grew.drew _).trans hR
                    simp [Deps, Dep, at_, Is] at hD
                    go_simp
                    exact hK _ _ (Grew.refl _) rfl
                  refine ⟨fun a_ wx hR hD K hK => ?_, ?_⟩
                  · have hG : Grew wr wx := (Grew.drew _).trans hR
                    simp [Deps, Dep, at_, Is] at hD
                    go_simp
                    exact hK _ _ (Grew.refl _) rfl
                  refine ⟨fun a_ wx hR hD K hK => ?_, ?_⟩
                  · have hG : Grew wr wx := (Grew.drew _).trans hR
                    simp [Deps, Dep, at_, Is] at hD
                    obtain ⟨hd0, hd1⟩ := hD
                    go_simp
                    exact hK _ _ (Grew.refl _) rfl
                  refine ⟨fun a_ wx hR hD K hK => ?_, ?_⟩
                  · have hG : Grew wr wx := (Grew.drew _).trans hR
                    simp [Deps, Dep, at_, Is] at hD
                    obtain ⟨e0, e1⟩ := HK.out wx hG
                    go_simp
                    exact hK _ _ (Grew.refl _) rfl
                  trivial
                · show EndHold _ _ _ _ _ _ _
                  refine end_all (xs := [_, _, _, _, _, _, _, _, _, _, _]) ⟨rfl, rfl, rfl, rfl, rfl, rfl, rfl, rfl, rfl, rfl, rfl, trivial⟩ ?_
                  rintro w2 hR1 -
                  refine ⟨?_⟩
                  have hG_w2 : Grew wr w2 := (Grew.drew _).trans hR1
                  clear hR1
                  simp only [Act.put, List.setIfInBounds_toArray, List.set_cons_succ, List.set_cons_zero, dropN, putEach]
                  have e_ := HEQ.out
                  cases bq with
                  | false =>
                    have HM2 := Lib.hid (HME.out (fun h => by have := h.2; rw [← HBQ.out] at this; cases this))
                    go_wp2_with fail
                    go_meet
                    case rel => exact ⟨sum, kn, rfl, rfl, rfl, rfl, s0, s1, fun h => absurd (HKN.out h).1 (by have := HREM.out; omega), HM2.out, hG_w2⟩
                  | true =>
                    have hRq := HMQ.out rfl
                    have HRQ := Lib.hid hRq
                    have HG02 := Lib.hid (Grew.trans HGR.out hG_w2)
                    have hbz := HBZ.out w2 HG02.out
                    obtain ⟨W6, hW6⟩ : ∃ W6, W6 = w2.alloc (.cells (enc3 ⟨true, (q : Int), ⟨#[]⟩⟩).toArray 43) := ⟨_, rfl⟩
                    have hg6 : Grew w2 W6 := by rw [hW6]; exact Grew.alloc _ _
                    have hbn : Blk W6 w2.heap.size 43 (enc3 ⟨true, (q : Int), ⟨#[]⟩⟩) := by rw [hW6]; exact Blk.new _ _ _
                    have hro6 := HRO.out W6 (Grew.trans hG_w2 hg6)
                    have hsz6 := hg6.size
                    obtain ⟨y8, w8, hrun, hro8, hgr8, hnb8⟩ := app_rowO (P := Try.prog) W6 B0 22 43 22 (.agg #[.bool false, .int .i64 0, .string ⟨#[]⟩]) 3 32 Try.underlying22 infoPc rfl (by decide) (by decide) (.slice Av na cv) na (pcs acc) w2.heap.size (enc3 ⟨true, (q : Int), ⟨#[]⟩⟩) rfl (enc3_one _) hro6 hbn (by omega) (by omega)
                    rw [← pcs_snoc, ← hRq] at hro8
                    subst hW6
                    have HRUN := Lib.hid hrun
                    have HG8 := Lib.hid (HUPG.out _ w8 _ (Grew.trans HG02.out hg6) (Upd.of_grown hgr8) (fun j hj => hro6.base_ j hj))
                    have hRl : R.length = na + 1 := by rw [hRq, List.length_append, ← HNA.out]; rfl
                    obtain ⟨A8, c8, hv8, hc8, hC8⟩ := rowP_C hro8 hRl
                    subst hv8
                    have HC8 := Lib.hid hC8
                    have HRL2 := Lib.hid hRl
                    clear hRq hbz hg6 hbn hro6 hsz6 hrun hro8 hgr8 hnb8 hC8 hRl hG_w2
                    go_wp2_with (at_builtin; refine wpList_app (by rfl) (.tmp 129) (.tmp 134) 22 (by rfl) (by rfl) (by rfl) HRUN.out ?_)
                    go_ret2
                    exact ⟨_, rfl, ⟨A8, c8, by simp only [HRL2.out]; first | done | rfl, by simp only [HRL2.out]; exact hc8, by simp only [HRL2.out]; exact HC8.out⟩, HGC.out _ HG8.out⟩
              · have c1 : ((rem : Int) == (last : Int)) = false := by simp; omega
                have c2 : (rem == last) = false := by simp; omega
                have c3 : decide (rem = last) = false := decide_eq_false hrl
                have c4 : decide ((rem : Int) = (last : Int)) = false := decide_eq_false (by omega)
                have HM2 := Lib.hid (HME.out (fun h => hrl h.1))
                clear hrl
                go_wp2_with fail
                go_meet
                case rel => exact ⟨sum, kn, rfl, rfl, rfl, rfl, s0, s1, fun h => absurd (HKN.out h).1 (by have := HREM.out; omega), HM2.out, Grew.refl _⟩
            | true =>
              have hnb : size ≤ rem := of_decide_eq_true HBB.out.symm
              go_upto_if 77 with fail
              go_cut [14, 15] from 76 to 162 (fun v14 v15 wc => v14 = .int .u32 (weak (bytesOf (t.extract i (i + size)))) ∧ v15 = .bool true ∧ Grew wr wc)
              case first =>
                cases kn with
                | true =>
                  go_wp2_with fail
                  go_meet
                  case rel => exact ⟨by rw [← (HKN.out (by trivial)).2], rfl, Grew.refl _⟩
                | false =>
                  obtain ⟨WN, hWN⟩ : ∃ WN, WN = t.extract i (i + size) := ⟨_, rfl⟩
                  have hw := HREM.out
                  have hsl := fun wx => slice_win t i size (by omega) wx
                  have hws : WN.size = size := by rw [hWN, ByteArray.size_extract]; omega
                  rw [← hWN] at hsl
                  have HWN := Lib.hid hWN
                  have wsz : IntKind.i64.wrap ((i : Int) + (size : Int)) = (i : Int) + (size : Int) := IntWalk.i64_in _ (by omega)
                  have hby := fun W => print_bytes (P := Try.prog) 9 23 5 Try.underlying9 Try.underlying23 Try.underlying5 WN W
                  rw [hws] at hby
                  have HSUM := Lib.hid (fun W => sum_bytes W WN size hws (by omega))
                  have HSL := Lib.hid hsl
                  clear hWN hw hsl
                  have hsl := HSL.out wr
                  go_wp2_with fail
                  clear hsl
                  refine (HSUM.out wr).mono ?_
                  rintro e w2 ⟨_, rfl, rfl, hg2⟩
                  have HG2 := Lib.hid (Grew.trans (bytesWorld_grew wr WN) hg2)
                  clear hg2 hby
                  go_wp2_with fail
                  go_meet
                  case rel => exact ⟨by rw [← HWN.out], rfl, HG2.out⟩
              case rest =>
                obtain ⟨rfl, rfl, hg2⟩ := hcut
                have HG2 := Lib.hid hg2
                have hg02 := Grew.trans HGR.out hg2
                have HG02 := Lib.hid hg02
                obtain ⟨WN, hWN⟩ : ∃ WN, WN = t.extract i (i + size) := ⟨_, rfl⟩
                have hw := HREM.out
                have hsl := fun wx => slice_win t i size (by omega) wx
                have HSTP := Lib.hid (fun (h : (wholeS sg size last).findIdx? (isS (oneS key (t.extract i (i + size)))) = none) => HSTEP.out (fun _ => h) (fun h2 => absurd hnb h2))
                rw [← HW.out] at HSTP
                have hws : WN.size = size := by rw [hWN, ByteArray.size_extract]; omega
                have hmf : ∀ k : Nat, W.findIdx? (isS (oneS key (t.extract i (i + size)))) = some k → mkD key sg size last t f (i + size) (acc ++ [⟨true, (k : Int), ⟨#[]⟩⟩]) = R := by
                  intro k hk
                  have hx := HMK.out
                  rw [mkD, hT', if_pos hlt, ← HREM.out, if_pos hnb, ← HW.out, hk] at hx
                  exact hx
                have HMF := Lib.hid hmf
                rw [← hWN] at hsl HSTP HMF ⊢
                obtain ⟨sm, hsm⟩ : ∃ sm, sm = weak (bytesOf WN) := ⟨_, rfl⟩
                have hsr := weak_range (bytesOf WN)
                rw [← hsm] at hsr
                have HKR := Lib.hid (show size ≤ rem ∧ sm = weak (bytesOf (t.extract i (i + size))) from ⟨hnb, by rw [← hWN]; exact hsm⟩)
                have hone : (oneS key WN).f0 = sm := hsm.symm
                rw [← hsm]
                have HWK := Lib.hid (iweak_c wc lvB p W lv b base D (HI.out wc hg02) sm (u32wf hsr.1 hsr.2) (by have := HWL.out; omega))
                have HWN := Lib.hid hWN
                have HSL := Lib.hid hsl
                have wsz : IntKind.i64.wrap ((i : Int) + (size : Int)) = (i : Int) + (size : Int) := IntWalk.i64_in _ (by omega)
                obtain ⟨bk, hbk⟩ : ∃ bk, bk = decide (0 < (posns W sm).length) := ⟨_, rfl⟩
                rw [← hbk] at HWK
                have HBK := Lib.hid hbk
                have HONE := Lib.hid hone
                have HSR := Lib.hid hsr
                clear hg2 hg02 hWN hw hsl hmf hsm hsr hone hbk
                go_wp2_with fail
                refine HWK.out.mono ?_
                rintro e w3 ⟨_, rfl, rfl, hg3⟩
                have HG3 := Lib.hid (Grew.trans HG2.out hg3)
                have HG03 := Lib.hid (Grew.trans HG02.out hg3)
                clear hg3
                cases bk with
                | false =>
                  have hno := find_weak (L := W) (s := oneS key WN) (by rw [HONE.out]; exact of_decide_eq_false HBK.out.symm)
                  have HM3 := Lib.hid (HSTP.out hno)
                  clear hno
                  go_wp2_with fail
                  go_meet
                  case rel => exact ⟨sm, true, rfl, rfl, rfl, rfl, HSR.out.1, HSR.out.2, fun _ => HKR.out, HM3.out, HG3.out⟩
                | true =>
                  have HON := Lib.hid (fun wx => one_c wx key WN hk (by omega))
                  have hsl := HSL.out w3
                  obtain ⟨sv0, hsv0⟩ : ∃ x, x = weak (bytesOf WN) := ⟨_, rfl⟩
                  obtain ⟨sv1, hsv1⟩ : ∃ x, x = strongS key WN := ⟨_, rfl⟩
                  rw [← hsv0, ← hsv1] at HON
                  have hos : oneS key WN = ⟨sv0, sv1⟩ := by unfold oneS; rw [hsv0, hsv1]
                  obtain ⟨fi, hfi⟩ : ∃ fi, fi = W.findIdx? (isS (oneS key WN)) := ⟨_, rfl⟩
                  have HFI := Lib.hid (fun wx (h : Grew w3 wx) => show Calls Try.prog 33 #[.pointer (some ⟨p, 0, none⟩), .agg #[.int .u32 sv0, .string sv1]] wx (Tells wx (Is (.tuple #[.int .i64 (pairO fi).1, .bool (pairO fi).2]))) from by
                    have h9 := ifind_c wx lvB p W lv b base D (HI.out wx (Grew.trans HG03.out h)) ⟨sv0, sv1⟩ (by rw [hsv0]; exact u32wf (weak_range _).1 (weak_range _).2) (by have := HWL.out; omega)
                    rw [findP_eq] at h9
                    rw [hfi, hos]
                    exact h9)
                  have HFE := Lib.hid hfi
                  clear hsv0 hsv1 hos hfi
                  go_wp2_with fail
                  clear hsl
                  refine (HON.out w3).mono ?_
                  rintro e w4 ⟨_, rfl, rfl, hg4⟩
                  go_wp2_with fail
                  refine (HFI.out w4 hg4).mono ?_
                  rintro e w5 ⟨_, rfl, rfl, hg5⟩
                  have HG5 := Lib.hid (Grew.trans HG3.out (Grew.trans hg4 hg5))
                  have HG05 := Lib.hid (Grew.trans HG03.out (Grew.trans hg4 hg5))
                  clear hg4 hg5
                  cases fi with
                  | none =>
                    have HM3 := Lib.hid (HSTP.out HFE.out.symm)
                    simp only [pairO]
                    go_wp2_with fail
                    go_meet
                    case rel => exact ⟨sm, true, rfl, rfl, rfl, rfl, HSR.out.1, HSR.out.2, fun _ => HKR.out, HM3.out, HG5.out⟩
                  | some k =>
                    have HM3 := Lib.hid (HMF.out k HFE.out.symm)
                    simp only [pairO]
                    have hbz := HBZ.out w5 HG05.out
                    obtain ⟨W6, hW6⟩ : ∃ W6, W6 = w5.alloc (.cells (enc3 ⟨true, (k : Int), ⟨#[]⟩⟩).toArray 43) := ⟨_, rfl⟩
                    have hg6 : Grew w5 W6 := by rw [hW6]; exact Grew.alloc _ _
                    have hbn : Blk W6 w5.heap.size 43 (enc3 ⟨true, (k : Int), ⟨#[]⟩⟩) := by rw [hW6]; exact Blk.new _ _ _
                    have hro6 := HRO.out W6 (Grew.trans HG5.out hg6)
                    have hsz6 := hg6.size
                    obtain ⟨y8, w8, hrun, hro8, hgr8, hnb8⟩ := app_rowO (P := Try.prog) W6 B0 22 43 22 (.agg #[.bool false, .int .i64 0, .string ⟨#[]⟩]) 3 32 Try.underlying22 infoPc rfl (by decide) (by decide) (.slice Av na cv) na (pcs acc) w5.heap.size (enc3 ⟨true, (k : Int), ⟨#[]⟩⟩) rfl (enc3_one _) hro6 hbn (by omega) (by omega)
                    rw [← pcs_snoc] at hro8
                    have HRUN := Lib.hid (show _ from hrun)
                    subst hW6
                    have HG8 := Lib.hid (HUPG.out _ w8 _ (Grew.trans HG05.out hg6) (Upd.of_grown hgr8) (fun j hj => hro6.base_ j hj))
                    have HRO8 := Lib.hid (show RowO w8 B0 43 3 y8 (acc ++ [(⟨true, (k : Int), ⟨#[]⟩⟩ : Pc)]).length (pcs (acc ++ [⟨true, (k : Int), ⟨#[]⟩⟩])) from by rw [List.length_append, ← HNA.out]; exact hro8)
                    have HPS8 := Lib.hid (show ∀ p ∈ acc ++ [(⟨true, (k : Int), ⟨#[]⟩⟩ : Pc)], p.f2.size ≤ i + size from fun p hp => by
                      rcases List.mem_append.1 hp with hp | hp
                      · have := HPS.out p hp; omega
                      · obtain rfl := List.mem_singleton.1 hp; exact Nat.zero_le _)
                    have HLN8 := Lib.hid (show (acc ++ [(⟨true, (k : Int), ⟨#[]⟩⟩ : Pc)]).length ≤ i + size from by rw [List.length_append, ← HNA.out]; simp; omega)
                    obtain ⟨A8, c8, rfl, hc8⟩ := hro8.slice
                    have hiT : i + size ≤ T := by have := HREM.out; omega
                    clear hbz hg6 hbn hro6 hsz6 hrun hro8 hgr8 hnb8
                    go_wp2_with (at_builtin; refine wpList_app (by rfl) (.tmp 103) (.tmp 106) 22 (by rfl) (by rfl) (by rfl) HRUN.out ?_)
                    go_roundw
                    case rel => exact ⟨i + size, f, _, sm, false, by go_num, hiT, rfl, rfl, by omega, HM3.out, HRO8.out, HLN8.out, HPS8.out, HSR.out.1, HSR.out.2, fun h => absurd h (by decide), HG8.out⟩
                    case measure => simp [intOf]; omega
          case rest =>
            obtain ⟨sum2, kn2, rfl, rfl, rfl, rfl, t0, t1, hkn2, hmk2, hg2⟩ := hcut
            have HG2 := Lib.hid hg2
            have HG02 := Lib.hid (Grew.trans HGR.out hg2)
            have hix := fun wx => index_bt t i (by omega) wx
            obtain ⟨bi, hbi⟩ : ∃ bi, bi = bt t (i : Int) := ⟨_, rfl⟩
            rw [← hbi] at hix hmk2
            have hbr := bt_range t (i : Int)
            rw [← hbi] at hbr
            have hby := byself_c wc B0 (.slice Av na cv) acc bi (by rw [← HNA.out]; exact HRO.out wc hg2) (HBZ.out wc HG02.out) (by rw [← HNA.out]; omega) (fun p hp => by have := HPS.out p hp; omega)
            have HBY := Lib.hid hby
            have HMK2 := Lib.hid hmk2
            have HKN2 := Lib.hid hkn2
            have HBI := Lib.hid hbi
            have HIX := Lib.hid hix
            clear hg2 hix hbi hby hmk2 hkn2
            have hix := HIX.out wc
            go_wp2_with fail
            clear hix
            refine HBY.out.mono ?_
            rintro e w3 ⟨v8, rfl, ⟨hro8, hnb8⟩, hu8⟩
            have HG03 := Lib.hid (HUPG.out wc w3 _ HG02.out hu8 (fun j hj => (HRO.out wc HG2.out).base_ j hj))
            have HRO8 := Lib.hid hro8
            obtain ⟨A8, c8, rfl, hc8⟩ := hro8.slice
            obtain ⟨acc2, hacc2⟩ : ∃ acc2, acc2 = bysD acc (strOfNums [bi]) := ⟨_, rfl⟩
            have hl2 : acc2.length ≤ i + 1 := by rw [hacc2]; have := bysD_len acc (strOfNums [bi]); rw [← HNA.out] at this; omega
            have hs2' : ∀ p ∈ acc2, p.f2.size ≤ i + 1 := by rw [hacc2]; exact bysD_size HPS.out (by rw [str_size]; rfl)
            rw [← hacc2] at HRO8 HMK2 ⊢
            have HL2 := Lib.hid hl2
            have HS2 := Lib.hid hs2'
            obtain ⟨n2, hn2⟩ : ∃ n2, n2 = acc2.length := ⟨_, rfl⟩
            have HN2x := Lib.hid hn2
            have HRO9 := Lib.hid (show RowO w3 B0 43 3 (.slice A8 n2 c8) acc2.length (pcs acc2) from by rw [hn2]; exact HRO8.out)
            rw [← hn2] at ⊢
            clear hro8 hnb8 hu8 hacc2 hl2 hs2' hc8 hn2
            have wi : IntKind.i64.wrap ((i : Int) + 1) = (i : Int) + 1 := IntWalk.i64_in _ (by omega)
            by_cases hkr : kn2 = true ∧ size < rem
            · obtain ⟨rfl, hsr⟩ := hkr
              have g1 : decide (size < rem) = true := decide_eq_true hsr
              have g2 : decide ((size : Int) < (rem : Int)) = true := decide_eq_true (by omega)
              have hkk := HKN2.out rfl
              have hrr := HREM.out
              have hro := roll_on t i size hs1 (by omega)
              rw [← HBI.out, ← hkk.2] at hro
              have wsz : IntKind.i64.wrap ((i : Int) + (size : Int)) = (i : Int) + (size : Int) := IntWalk.i64_in _ (by omega)
              have hix2 := fun wx => index_bt t (i + size) (by omega) wx
              rw [show ((i + size : Nat) : Int) = (i : Int) + (size : Int) from by omega] at hix2
              have hbr2 := bt_range t ((i : Int) + (size : Int))
              obtain ⟨bj, hbj⟩ : ∃ bj, bj = bt t ((i : Int) + (size : Int)) := ⟨_, rfl⟩
              rw [← hbj] at hix2 hro hbr2
              have HIX2 := Lib.hid hix2
              have HNX := Lib.hid (fun wx => next_c sum2 (size : Int) bi bj wx t0 t1 hbr.1 (by omega) hbr2.1 (by omega))
              obtain ⟨s9, hs9⟩ : ∃ s9, s9 = next sum2 (size : Int) bi bj := ⟨_, rfl⟩
              have hs9r := next_range sum2 (size : Int) bi bj
              rw [← hs9] at HNX hro hs9r
              have HRO5 := Lib.hid hro
              have HS9R := Lib.hid hs9r
              have g3 : (size : Int) < (rem : Int) := by omega
              clear hkk hro hix2 hbr2 hbj hs9 hs9r hrr
              go_wp2_with fail
              clear g1 g2
              apply region_grew [Is _, Is _, Is _, Is _, Is _, Is _, Is _, Is _, Is _, Is _] [([(14, none)], none), ([(2, none)], none), ([(4, none)], none), ([(16, none)], none), ([(152, some 2), (153, some 3)], none), ([(4, none)], none), ([(16, none)], none), ([(2, none)], none), ([(156, some 6), (157, some 7)], none), ([(155, some 5), (158, some 8)], none)] [(150, 0), (151, 1), (152, 2), (153, 3), (154, 4), (155, 5), (156, 6), (157, 7), (158, 8), (159, 9)] rfl (by kernel_rfl) (by kernel_rfl) (show Stable Grew _ from ⟨Is.stable _, Is.stable _, Is.stable _, Is.stable _, Is.stable _, Is.stable _, Is.stable _, Is.stable _, Is.stable _, Is.stable _, trivial⟩)
              · show OpsHold _ _ _ _ _ _ _ _ _
                refine ⟨fun a_ wx hR hD K hK => ?_, ?_⟩
                · have hG : Grew w3 wx := (Grew.drew _).trans hR
                  simp [Deps, Dep, at_, Is] at hD
                  go_simp
                  exact hK _ _ (Grew.refl _) rfl
                refine ⟨fun a_ wx hR hD K hK => ?_, ?_⟩
                · have hG : Grew w3 wx := (Grew.drew _).trans hR
                  simp [Deps, Dep, at_, Is] at hD
                  go_simp
                  exact hK _ _ (Grew.refl _) rfl
                refine ⟨fun a_ wx hR hD K hK => ?_, ?_⟩
                · have hG : Grew w3 wx := (Grew.drew _).trans hR
                  simp [Deps, Dep, at_, Is] at hD
                  go_simp
                  exact hK _ _ (Grew.refl _) rfl
                refine ⟨fun a_ wx hR hD K hK => ?_, ?_⟩
                · have hG : Grew w3 wx := (Grew.drew _).trans hR
                  simp [Deps, Dep, at_, Is] at hD
                  go_simp
                  exact hK _ _ (Grew.refl _) rfl
                refine ⟨fun a_ wx hR hD K hK => ?_, ?_⟩
                · have hG : Grew w3 wx := (Grew.drew _).trans hR
                  simp [Deps, Dep, at_, Is] at hD
                  obtain ⟨hd0, hd1⟩ := hD
                  have e_ := HIX.out wx
                  go_simp
                  exact hK _ _ (Grew.refl _) rfl
                refine ⟨fun a_ wx hR hD K hK => ?_, ?_⟩
                · have hG : Grew w3 wx := (Grew.drew _).trans hR
                  simp [Deps, Dep, at_, Is] at hD
                  go_simp
                  exact hK _ _ (Grew.refl _) rfl
                refine ⟨fun a_ wx hR hD K hK => ?_, ?_⟩
                · have hG : Grew w3 wx := (Grew.drew _).trans hR
                  simp [Deps, Dep, at_, Is] at hD
                  go_simp
                  exact hK _ _ (Grew.refl _) rfl
                refine ⟨fun a_ wx hR hD K hK => ?_, ?_⟩
                · have hG : Grew w3 wx := (Grew.drew _).trans hR
                  simp [Deps, Dep, at_, Is] at hD
                  go_simp
                  exact hK _ _ (Grew.refl _) rfl
                refine ⟨fun a_ wx hR hD K hK => ?_, ?_⟩
                · have hG : Grew w3 wx := (Grew.drew _).trans hR
                  simp [Deps, Dep, at_, Is] at hD
                  obtain ⟨hd0, hd1⟩ := hD
                  go_simp
                  exact hK _ _ (Grew.refl _) rfl
                refine ⟨fun a_ wx hR hD K hK => ?_, ?_⟩
                · have hG : Grew w3 wx := (Grew.drew _).trans hR
                  simp [Deps, Dep, at_, Is] at hD
                  obtain ⟨hd0, hd1⟩ := hD
                  have e_ := HIX2.out wx
                  go_simp
                  exact hK _ _ (Grew.refl _) rfl
                trivial
              · show EndHold _ _ _ _ _ _ _
                refine end_all (xs := [_, _, _, _, _, _, _, _, _, _]) ⟨rfl, rfl, rfl, rfl, rfl, rfl, rfl, rfl, rfl, rfl, trivial⟩ ?_
                rintro w4 hR1 -
                refine ⟨?_⟩
                have hG_w4 : Grew w3 w4 := (Grew.drew _).trans hR1
                clear hR1
                simp only [Act.put, List.setIfInBounds_toArray, List.set_cons_succ, List.set_cons_zero, dropN, putEach]
                go_wp2_with fail
                refine (HNX.out w4).mono ?_
                rintro e w5 ⟨_, rfl, rfl, hg5⟩
                have hg35 := Grew.trans hG_w4 hg5
                go_wp2_with fail
                go_roundw
                case rel => exact ⟨i + 1, f, acc2, s9, true, by go_num, by omega, rfl, rfl, by omega, HMK2.out, HRO9.out.grew hg35, HL2.out, HS2.out, HS9R.out.1, HS9R.out.2, fun _ => ⟨by omega, HRO5.out⟩, Grew.trans HG03.out hg35⟩
                case measure => simp [intOf]; omega
            · have hcs : kn2 = false ∨ (kn2 = true ∧ ¬ size < rem) := by
                cases kn2 with
                | false => exact .inl rfl
                | true => exact .inr ⟨rfl, fun h => hkr ⟨rfl, h⟩⟩
              clear hkr
              rcases hcs with rfl | ⟨rfl, hsr⟩
              · go_wp2_with fail
                go_roundw
                case rel => exact ⟨i + 1, f, acc2, sum2, false, by go_num, by omega, rfl, rfl, by omega, HMK2.out, HRO9.out, HL2.out, HS2.out, t0, t1, fun h => absurd h (by decide), HG03.out⟩
                case measure => simp [intOf]; omega
              · have g1 : decide (size < rem) = false := decide_eq_false hsr
                have g2 : decide ((size : Int) < (rem : Int)) = false := decide_eq_false (by omega)
                go_wp2_with fail
                go_roundw
                case rel => exact ⟨i + 1, f, acc2, sum2, false, by go_num, by omega, rfl, rfl, by omega, HMK2.out, HRO9.out, HL2.out, HS2.out, t0, t1, fun h => absurd h (by decide), HG03.out⟩
                case measure => simp [intOf]; omega
        · obtain rfl : i = T := by omega
          have d1 : decide ((i : Int) < (i : Int)) = false := decide_eq_false (by omega)
          have d2 : decide (i < i) = false := decide_eq_false (by omega)
          have hRa : R = acc := by rw [← HMK.out]; exact mkD_end (by rw [hT']; omega)
          have HRA := Lib.hid hRa
          clear hRa
          obtain ⟨A8, c8, hv8, hc8, hC8⟩ := rowP_C (HRO.out wr (Grew.refl _)) HNA.out.symm
          injection hv8 with hv81 hv82 hv83
          subst hv81 hv83
          have HC8 := Lib.hid hC8
          clear hC8 hv82
          go_wp2_with fail
          rw [Exit.noGoto_ret]
          go_ret2
          exact ⟨_, rfl, ⟨Av, cv, by rw [HRA.out, ← HNA.out]; rfl, by rw [HRA.out, ← HNA.out]; exact hc8, by rw [HRA.out, ← HNA.out]; exact HC8.out⟩, HGC.out _ HGR.out⟩
end Go.Proofs.Ytimcafohmahapaa.F

-- DelL
namespace Go.Proofs.Ytimcafohmahapaa.F
open Go Go.RowKit Go.Proofs.YtimcafohmahapaaW.PrintWords Go.Proofs.YtimcafohmahapaaW.PrintLast Go.Proofs.YtimcafohmahapaaW.PrintMore Go.Proofs.YtimcafohmahapaaM Go.Proofs.YtimcafohmahapaaR
attribute [local go_sem] max2_int min2_int max_two min_two
set_option linter.unusedSimpArgs false
set_option linter.unusedVariables false
set_option maxRecDepth 100000
theorem oneS_wf (key b : ByteArray) : (Lit.int .u32 (oneS key b).f0).wf = true := u32wf (weak_range _).1 (weak_range _).2
theorem own_rowP {w : World} {base g : Nat} {l : List Pc} (h : Blk w g 43 (pcs l)) (hb : base ≤ g) (hm : l.length ≤ 1000000) : RowO w base 43 3 (.slice (some ⟨g, 0, none⟩) l.length l.length) l.length (pcs l) :=
  ⟨pcs_len l, .inr ⟨g, 0, l.length, (pcs l).toArray, rfl, hb, h, Nat.le_refl _, by unfold maxLen; omega, by simp [pcs_len], by rw [List.drop_zero, ← pcs_len]; simp⟩⟩
def exT : ByteArray := ⟨#[99, 100, 88, 97, 98]⟩
def exB : ByteArray := ⟨#[97, 98, 99, 100]⟩
def exK : ByteArray := ⟨#[107]⟩
theorem ex_blocks : sign_Blocks.f 10 exB 2 = some ([⟨#[97, 98]⟩, ⟨#[99, 100]⟩], 0) := by decide +kernel
theorem ex_w (a b : ByteArray) (h : weak (bytesOf a) ≠ weak (bytesOf b)) : isS (oneS exK a) (oneS exK b) = false := by
  unfold isS oneS
  simp only
  rw [decide_eq_false (fun e => h e.symm), Bool.false_and]
theorem ex_e (a : ByteArray) : isS (oneS exK a) (oneS exK a) = true := (isS_iff _ _).2 rfl
theorem ex_make : mkD exK [oneS exK ⟨#[97, 98]⟩, oneS exK ⟨#[99, 100]⟩] 2 2 exT 6 0 [] = [⟨true, 1, ⟨#[]⟩⟩, ⟨false, 0, ⟨#[88]⟩⟩, ⟨true, 0, ⟨#[]⟩⟩] := by
  have hs : exT.size = 5 := rfl
  have e0 : exT.extract 0 (0 + 2) = ⟨#[99, 100]⟩ := by decide +kernel
  have e2 : exT.extract 2 (2 + 2) = ⟨#[88, 97]⟩ := by decide +kernel
  have e3 : exT.extract 3 (3 + 2) = ⟨#[97, 98]⟩ := by decide +kernel
  have w1 : weak (bytesOf ⟨#[99, 100]⟩) ≠ weak (bytesOf ⟨#[97, 98]⟩) := by decide +kernel
  have w2 : weak (bytesOf ⟨#[88, 97]⟩) ≠ weak (bytesOf ⟨#[97, 98]⟩) := by decide +kernel
  have w3 : weak (bytesOf ⟨#[88, 97]⟩) ≠ weak (bytesOf ⟨#[99, 100]⟩) := by decide +kernel
  have hb : strOfNums [bt exT ((2 : Nat) : Int)] = ⟨#[88]⟩ := by decide +kernel
  have hw : wholeS [oneS exK ⟨#[97, 98]⟩, oneS exK ⟨#[99, 100]⟩] 2 2 = [oneS exK ⟨#[97, 98]⟩, oneS exK ⟨#[99, 100]⟩] := rfl
  have f0 : [oneS exK ⟨#[97, 98]⟩, oneS exK ⟨#[99, 100]⟩].findIdx? (isS (oneS exK ⟨#[99, 100]⟩)) = some 1 := by
    rw [List.findIdx?_cons, ex_w _ _ w1, List.findIdx?_cons, ex_e]; rfl
  have f2 : [oneS exK ⟨#[97, 98]⟩, oneS exK ⟨#[99, 100]⟩].findIdx? (isS (oneS exK ⟨#[88, 97]⟩)) = none := by
    rw [List.findIdx?_cons, ex_w _ _ w2, List.findIdx?_cons, ex_w _ _ w3]; rfl
  have f3 : [oneS exK ⟨#[97, 98]⟩, oneS exK ⟨#[99, 100]⟩].findIdx? (isS (oneS exK ⟨#[97, 98]⟩)) = some 0 := by
    rw [List.findIdx?_cons, ex_e]; rfl
  rw [mkD, hs, if_pos (by decide), if_pos (by decide), hw, e0, f0]
  simp only
  rw [mkD, hs, if_pos (by decide), if_pos (by decide), hw, show 0 + 2 = 2 from rfl, e2, f2]
  simp only
  rw [hb, mkD, hs, if_pos (by decide), if_pos (by decide), hw, show 2 + 1 = 3 from rfl, e3, f3]
  simp only
  rw [mkD_end (by rw [hs]; decide)]
  rfl
set_option maxHeartbeats 4000000 in
theorem lives_c (w : World) : Calls Try.prog 9 #[] w (Tells w (Is (.bool true))) := by
  have hsg := fun wx => signs_c wx exK exB 2 10 _ 0 ex_blocks (fun h => absurd rfl h) (by simp) (by intro b hb; simp at hb; rcases hb with rfl | rfl <;> decide) (by decide)
  obtain ⟨SG, hSG⟩ : ∃ SG : List Sg, SG = [oneS exK ⟨#[97, 98]⟩, oneS exK ⟨#[99, 100]⟩] := ⟨_, rfl⟩
  have hmap : List.map (oneS exK) [⟨#[97, 98]⟩, ⟨#[99, 100]⟩] = SG := by rw [hSG]; rfl
  rw [hmap] at hsg
  have hsl : SG.length = 2 := by rw [hSG]; rfl
  have HSG := Lib.hid hsg
  have HMK := Lib.hid (fun (wx : World) (A : Option Addr) (c : Nat) (h : Kd.C k64 wx A 2 SG) (hc : 2 ≤ c) => show Calls Try.prog 17 #[.string exK, .slice A 2 c, .int .i64 2, .int .i64 2, .string exT] wx (Tells wx (DecT ([⟨true, 1, ⟨#[]⟩⟩, ⟨false, 0, ⟨#[88]⟩⟩, ⟨true, 0, ⟨#[]⟩⟩], 0))) from by
    have h9 := make_c wx exK exT SG A c 2 2 (by rw [hsl]; exact h) (by rw [hsl]; exact hc) (by omega) (by omega) (by omega) ⟨fun h => by omega, fun h => by omega⟩ (by decide) (by omega) (by decide) (by intro x hx; rw [hSG] at hx; simp at hx; rcases hx with rfl | rfl <;> exact oneS_wf _ _)
    rw [hsl, show exT.size + 1 = 6 from rfl, hSG, ex_make] at h9
    exact h9)
  have HSL := Lib.hid hsl
  have HK := Lib.hid (show exK = ⟨#[107]⟩ from rfl)
  have HB := Lib.hid (show exB = ⟨#[97, 98, 99, 100]⟩ from rfl)
  have HT := Lib.hid (show exT = ⟨#[99, 100, 88, 97, 98]⟩ from rfl)
  rw [HK.out, HB.out] at HSG
  rw [HK.out, HT.out] at HMK
  clear hsg hmap hsl hSG
  go_enter Try.func9, Try.ntmps9
  go_wp2_with fail
  refine (HSG.out w).mono ?_
  rintro e w1 ⟨_, rfl, ⟨v0, rfl, hown⟩, hg1⟩
  obtain ⟨A1, c1, rfl, hc1, hC1⟩ := sg_C hown rfl
  rw [HSL.out] at hc1 hC1 ⊢
  have HC1 := Lib.hid hC1
  clear hown hC1
  go_wp2_with fail
  refine (HMK.out w1 A1 c1 HC1.out hc1).mono ?_
  rintro e w2 ⟨_, rfl, ⟨A2, c2, rfl, hc2, hC2⟩, hg2⟩
  simp only [List.length_cons, List.length_nil, Nat.zero_add, Nat.reduceAdd] at hc2 hC2 ⊢
  have HC2 := Lib.hid hC2
  have HSA := Lib.hid (fun (wx : World) (h : Grew w2 wx) (hb : Blk wx w2.heap.size 43 (pcs [⟨true, 1, ⟨#[]⟩⟩, ⟨false, 0, ⟨#[88]⟩⟩, ⟨true, 0, ⟨#[]⟩⟩])) => show Calls Try.prog 12 #[.slice A2 3 c2, .slice (some ⟨w2.heap.size, 0, none⟩) 3 3] wx (Tells wx (Is (.bool true))) from by
    obtain ⟨A9, c9, hv9, hc9, hC9⟩ := rowP_C (own_rowP (base := 0) hb (Nat.zero_le _) (by simp)) rfl
    injection hv9 with h1 h2 h3
    subst h1 h3
    exact same_c A2 _ 3 c2 3 _ wx (Kd.C_below HC2.out h) hC9 rfl hc2 (Nat.le_refl _) (by omega))
  clear hC2
  go_wp2_with fail
  refine (HSA.out _ (Grew.alloc _ _) (Blk.new _ _ (pcs [⟨true, 1, ⟨#[]⟩⟩, ⟨false, 0, ⟨#[88]⟩⟩, ⟨true, 0, ⟨#[]⟩⟩]))).mono ?_
  rintro e w3 ⟨_, rfl, rfl, hg3⟩
  go_wp2_with fail
  go_ret
  exact ⟨_, rfl, rfl, Grew.trans hg1 (Grew.trans hg2 (Grew.trans (Grew.alloc _ _) hg3))⟩
end Go.Proofs.Ytimcafohmahapaa.F

-- F18
namespace Go.Proofs.Ytimcafohmahapaa.F
open Go.RowKit Go.Proofs.YtimcafohmahapaaW.PrintWords Go.Proofs.YtimcafohmahapaaW.PrintLast Go.Proofs.YtimcafohmahapaaW.PrintMore
attribute [local go_sem] max2_int min2_int max_two min_two max_three min_three max_four min_four   -- for this text's walks alone
set_option linter.unusedVariables false
set_option linter.unusedSimpArgs false

/-! ### strongroomlaw11_last: function 18 -/
def strongroomlaw11_last.f (a0 : ByteArray) (a1 : Int) : Option (Int) := if (a0.size : Int) = 0 then (some 0) else (if a1 = 0 then (none) else (some (wrap64 ((Int.tmod (wrap64 ((a0.size : Int) - 1)) a1) + 1))))
set_option maxHeartbeats 8000000 in
set_option maxRecDepth 100000 in
theorem strongroomlaw11_last.calls (a0 : ByteArray) (a1 : Int) (r : Int) (w : World) (h : strongroomlaw11_last.f a0 a1 = some r) :
    Calls Try.prog 18 #[.string a0, .int .i64 a1] w fun e w' => e = .returned (.int .i64 r) ∧ Drawn0 w w' := by
  have H : (if (a0.size : Int) = 0 then (some 0) else (if a1 = 0 then (none) else (some (wrap64 ((Int.tmod (wrap64 ((a0.size : Int) - 1)) a1) + 1))))) = some r := h
  clear h
  by_cases c3 : (a0.size : Int) = 0
  · rw [if_pos c3] at H
    have c3b0 : ((a0.size : Int) == 0) = true := beq_iff_eq.mpr c3
    have c3b1 : ((a0.size : Int) != 0) = false := bne_eq_false_iff_eq.mpr c3
    clear c3
    obtain rfl := Option.some.inj H
    go_enter Try.func18, Try.ntmps18
    go_wp2
    go_ret
    exact ⟨by first | rfl | (simp; done) | (simp [*]; done), by repeat (first | exact Drawn0.refl _ | apply Drawn0.step)⟩
  · rw [if_neg c3] at H
    have c3b0 : ((a0.size : Int) == 0) = false := beq_eq_false_iff_ne.mpr c3
    have c3b1 : ((a0.size : Int) != 0) = true := bne_iff_ne.mpr c3
    by_cases c4 : a1 = 0
    · rw [if_pos c4] at H
      exact absurd H (by simp)
    · rw [if_neg c4] at H
      have c4b0 : (a1 == 0) = false := beq_eq_false_iff_ne.mpr c4
      have c4b1 : (a1 != 0) = true := bne_iff_ne.mpr c4
      obtain rfl := Option.some.inj H
      go_enter Try.func18, Try.ntmps18
      go_wp2
      go_ret
      exact ⟨by first | rfl | (simp; done) | (simp [*]; done), by repeat (first | exact Drawn0.refl _ | apply Drawn0.step)⟩

end Go.Proofs.Ytimcafohmahapaa.F

-- F19
namespace Go.Proofs.Ytimcafohmahapaa.F
open Go.RowKit Go.Proofs.YtimcafohmahapaaW.PrintWords Go.Proofs.YtimcafohmahapaaW.PrintLast Go.Proofs.YtimcafohmahapaaW.PrintMore
attribute [local go_sem] max2_int min2_int max_two min_two max_three min_three max_four min_four   -- for this text's walks alone
set_option linter.unusedVariables false
set_option linter.unusedSimpArgs false

-- NOT PRINTED: function 5 (strongroomlaw11_DeltaSame)

end Go.Proofs.Ytimcafohmahapaa.F

-- DelS
namespace Go.Proofs.Ytimcafohmahapaa.F
open Go Go.RowKit Go.Proofs.YtimcafohmahapaaW.PrintWords Go.Proofs.YtimcafohmahapaaW.PrintLast Go.Proofs.YtimcafohmahapaaW.PrintMore Go.Proofs.YtimcafohmahapaaM Go.Proofs.YtimcafohmahapaaR
set_option linter.unusedSimpArgs false
set_option linter.unusedVariables false
set_option maxRecDepth 100000
/-- how many bytes the last block has -/
def lastT (T s : Nat) : Nat := if T = 0 then 0 else (T - 1) % s + 1
theorem lastT_le {T s : Nat} (hs : 1 ≤ s) : lastT T s ≤ s := by
  unfold lastT
  split
  · omega
  · have := Nat.mod_lt (T - 1) (show 0 < s by omega); omega
theorem cnt_zero {t : ByteArray} {s : Nat} (hs : 1 ≤ s) : cntT t s = 0 ↔ t.size = 0 := by
  constructor
  · intro h
    by_cases h0 : t.size = 0
    · exact h0
    · have := (cnt_lt t s 0 (by omega)).2 (by omega)
      omega
  · intro h
    unfold cntT
    rw [h]
    exact Nat.div_eq_of_lt (by omega)
theorem lastT_zero {t : ByteArray} {s : Nat} (hs : 1 ≤ s) : lastT t.size s = 0 ↔ cntT t s = 0 := by
  rw [cnt_zero hs]
  unfold lastT
  split
  · simp [*]
  · simp [*]
theorem signs_at (key t : ByteArray) (s m : Nat) (h : m < cntT t s) : ((blksT t s (cntT t s)).map (oneS key))[m]? = some (oneS key (blkT t s m)) := by
  unfold blksT
  rw [List.getElem?_map, List.getElem?_map, List.getElem?_range h]
  rfl
theorem ext_snoc (t : ByteArray) (i : Nat) (h : i < t.size) : t.extract 0 i ++ strOfNums [bt t (i : Int)] = t.extract 0 (i + 1) := by
  have e : strOfNums [bt t (i : Int)] = t.extract i (i + 1) := by
    rw [strN_extractD t i (i + 1) (by omega), bt_at' t i h]
    congr 1
    rw [List.drop_take, Nat.add_sub_cancel_left, List.drop_eq_getElem_cons (by rw [bytesOf_length]; exact h)]
    rfl
  rw [e, ByteArray.extract_append_extract]
  congr 1 <;> omega
theorem last_c (t : ByteArray) (s : Nat) (w : World) (hs : 1 ≤ s) (hs2 : s ≤ 128) (ht : t.size ≤ 100000) : Calls Try.prog 18 #[.string t, .int .i64 (s : Int)] w (Tells w (Is (.int .i64 (lastT t.size s : Int)))) := by
  refine tells_is ((strongroomlaw11_last.calls t (s : Int) _ w ?_).mono fun _ _ ⟨h, k⟩ => ⟨h, drawn_below k⟩)
  unfold strongroomlaw11_last.f lastT
  by_cases h : t.size = 0
  · rw [if_pos (by omega), if_pos h]; rfl
  · rw [if_neg (by omega), if_neg (by omega), if_neg h, w64 (x := (t.size : Int) - 1) (by omega) (by omega)]
    have h2 : Int.tmod ((t.size : Int) - 1) (s : Int) = (((t.size - 1) % s : Nat) : Int) := by
      rw [show (t.size : Int) - 1 = ((t.size - 1 : Nat) : Int) from by omega, Int.tmod_eq_emod_of_nonneg (by omega)]
      exact (Int.natCast_emod _ _).symm
    have h3 := Nat.mod_lt (t.size - 1) (show 0 < s by omega)
    rw [h2, w64 (by omega) (by omega)]
    congr 1
end Go.Proofs.Ytimcafohmahapaa.F

-- DelG
namespace Go.Proofs.Ytimcafohmahapaa.F
open Go Go.RowKit Go.Proofs.YtimcafohmahapaaW.PrintWords Go.Proofs.YtimcafohmahapaaW.PrintLast Go.Proofs.YtimcafohmahapaaW.PrintMore Go.Proofs.YtimcafohmahapaaM Go.Proofs.YtimcafohmahapaaR
attribute [local go_sem] max2_int min2_int max_two min_two
set_option linter.unusedSimpArgs false
set_option linter.unusedVariables false
set_option maxRecDepth 100000
/-- the bytes of a piece -/
def outP (b : ByteArray) (s : Nat) (p : Pc) : ByteArray := if p.f0 = true then blkT b s p.f1.toNat else p.f2
/-- is it a block that isn't there? -/
def farP (n : Nat) (p : Pc) : Bool := p.f0 && decide ((n : Int) ≤ p.f1)
def joinP (b : ByteArray) (s : Nat) : List Pc → ByteArray → Option ByteArray
  | [], acc => some acc
  | p :: l, acc => if 1024 < acc.size + (outP b s p).size then none else joinP b s l (acc ++ outP b s p)
def patB (b : ByteArray) (s : Nat) (l : List Pc) : ByteArray × Int :=
  if l.any (farP (cntT b s)) = true then (⟨#[]⟩, 9) else if 1024 < b.size then (⟨#[]⟩, 2) else match joinP b s l ⟨#[]⟩ with
    | none => (⟨#[]⟩, 2)
    | some t => (t, 0)
/-- what is made of a basis and pieces -/
def patP (b : ByteArray) (size : Int) (l : List Pc) : ByteArray × Int :=
  if mayD l = true then if size < 1 ∨ 128 < size then (⟨#[]⟩, 9) else patB b size.toNat l else (⟨#[]⟩, 1)
theorem any_take {n : Nat} {l : List Pc} {i : Nat} {e : Pc} (h : l[i]? = some e) (h1 : (l.take i).any (farP n) = false) (h2 : farP n e = false) : (l.take (i + 1)).any (farP n) = false := by
  rw [List.take_add_one, h, List.any_append, h1]
  simp [h2]
theorem any_at {n : Nat} {l : List Pc} {i : Nat} {e : Pc} (h : l[i]? = some e) (h2 : farP n e = true) : l.any (farP n) = true := List.any_eq_true.2 ⟨e, List.mem_of_getElem? h, h2⟩
theorem blk_win (b : ByteArray) (s m : Nat) (h : m * s ≤ b.size) : blkT b s m = b.extract (m * s) (min (m * s + s) b.size) := by
  unfold blkT
  rw [Nat.min_eq_left h]
theorem joinP_cons {b : ByteArray} {s : Nat} {l : List Pc} {i : Nat} {e : Pc} (h : l[i]? = some e) (acc : ByteArray) : joinP b s (l.drop i) acc = if 1024 < acc.size + (outP b s e).size then none else joinP b s (l.drop (i + 1)) (acc ++ outP b s e) := by
  obtain ⟨hi, rfl⟩ := List.getElem?_eq_some_iff.1 h
  rw [List.drop_eq_getElem_cons hi, joinP]
theorem bytesOf_app (x y : ByteArray) : bytesOf (x ++ y) = bytesOf x ++ bytesOf y := by
  unfold bytesOf
  simp [ByteArray.data_append]
theorem own_nil (base : Nat) (w : World) : Own base [] w (.slice none 0 0) := ⟨by simp [nums], .inl ⟨rfl, rfl⟩⟩
theorem blk_sizeP (t : ByteArray) (s m : Nat) : (blkT t s m).size ≤ s := by
  unfold blkT
  rw [ByteArray.size_extract]
  omega
theorem slice_min (t : ByteArray) (a z : Nat) (h : a ≤ z) (h2 : z ≤ t.size) (w : World) : (Instr.slice 9 (.string t) (some (.int .i64 (a : Int))) (some (.int .i64 (z : Int))) none).run Try.prog w = .ok (.string (t.extract a z)) w := by
  rw [run_slice_string w 9 t .i64 .i64 _ _ Try.underlying9 (by omega) (by omega) (by omega), Int.toNat_natCast, Int.toNat_natCast]
theorem mayDL_ok2 {b : Bool} {l : List Pc} (h : mayDL b l = true) : ∀ p ∈ l, p.f0 = true → 0 ≤ p.f1 := by
  induction l generalizing b with
  | nil => intro p hp; simp at hp
  | cons x l ih =>
    simp only [mayDL, Bool.and_eq_true] at h
    intro p hp hf
    rcases List.mem_cons.1 hp with rfl | hp
    · have h0 := h.1
      unfold okP at h0
      rw [if_pos hf] at h0
      exact (of_decide_eq_true h0).1
    · exact ih h.2 p hp hf
set_option maxHeartbeats 8000000 in
theorem patch_c (w : World) (b : ByteArray) (size : Int) (l : List Pc) (A : Option Addr) (c : Nat) (hr : Kd.C k43 w A l.length l) (hc : l.length ≤ c) (hb : b.size ≤ 3000) (hs : ∀ p ∈ l, p.f2.size ≤ 5000) :
    Calls Try.prog 20 #[.string b, .int .i64 size, .slice A l.length c] w (Tells w (Is (.tuple #[.string (patP b size l).1, .int .i64 (patP b size l).2]))) := by
  obtain ⟨R, hR⟩ : ∃ R, R = patP b size l := ⟨_, rfl⟩
  rw [← hR]
  unfold patP at hR
  have HCK := Lib.hid (chk_c A c l w hr hc)
  by_cases hm : mayD l = true
  case neg =>
    rw [if_neg hm] at hR
    subst hR
    have hm2 : mayD l = false := by simpa using hm
    rw [hm2] at HCK
    obtain ⟨n, hn⟩ : ∃ n, n = l.length := ⟨_, rfl⟩
    rw [← hn] at HCK hc ⊢
    clear hr hm hm2 hn hs
    go_enter Try.func20, Try.ntmps20
    go_wp2_with fail
    refine HCK.out.mono ?_
    rintro e w2 ⟨_, rfl, rfl, hg2⟩
    go_wp2_with fail
    go_ret2
    exact ⟨_, rfl, rfl, hg2⟩
  rw [if_pos hm] at hR
  rw [hm] at HCK
  by_cases hz : size < 1
  · rw [if_pos (.inl hz)] at hR
    subst hR
    have d1 : decide (size < 1) = true := decide_eq_true hz
    obtain ⟨n, hn⟩ : ∃ n, n = l.length := ⟨_, rfl⟩
    rw [← hn] at HCK hc ⊢
    clear hr hm hn hs
    go_enter Try.func20, Try.ntmps20
    go_wp2_with fail
    refine HCK.out.mono ?_
    rintro e w2 ⟨_, rfl, rfl, hg2⟩
    go_wp2_with fail
    go_ret2
    exact ⟨_, rfl, rfl, hg2⟩
  have d1 : decide (size < 1) = false := decide_eq_false hz
  by_cases hz2 : 128 < size
  · rw [if_pos (.inr hz2)] at hR
    subst hR
    have d2 : decide (128 < size) = true := decide_eq_true hz2
    obtain ⟨n, hn⟩ : ∃ n, n = l.length := ⟨_, rfl⟩
    rw [← hn] at HCK hc ⊢
    clear hr hm hn hs
    go_enter Try.func20, Try.ntmps20
    go_wp2_with fail
    refine HCK.out.mono ?_
    rintro e w2 ⟨_, rfl, rfl, hg2⟩
    go_wp2_with fail
    go_ret2
    exact ⟨_, rfl, rfl, hg2⟩
  rw [if_neg (by omega)] at hR
  obtain ⟨s, rfl⟩ := Int.eq_ofNat_of_zero_le (show 0 ≤ size by omega)
  rw [Int.toNat_natCast] at hR
  have d2 : decide (128 < (s : Int)) = false := decide_eq_false hz2
  have d1n : decide (s < 1) = false := decide_eq_false (by omega)
  have d2n : decide (128 < s) = false := decide_eq_false (by omega)
  have hs1 : 1 ≤ s := by omega
  have hs2 : s ≤ 128 := by omega
  have hm0 := hm
  unfold mayD at hm0
  simp only [Bool.and_eq_true, decide_eq_true_eq] at hm0
  have hll := hm0.1
  have HOK := Lib.hid (fun (p : Pc) (hp : p ∈ l) (hf : p.f0 = true) => show 0 ≤ p.f1 from by
    have h9 := mayDL_ok2 hm0.2 p hp hf
    exact h9)
  have HR := Lib.hid (fun wx (h : Grew w wx) => Kd.C_below hr h)
  obtain ⟨n, hn⟩ : ∃ n, n = l.length := ⟨_, rfl⟩
  have HN := Lib.hid hn
  rw [← hn] at HCK hc hll ⊢
  obtain ⟨T, hT⟩ : ∃ T, b.size = T := ⟨_, rfl⟩
  obtain ⟨N, hN⟩ : ∃ N, N = cntT b s := ⟨_, rfl⟩
  have hN2 : N = (T + s - 1) / s := by rw [hN, ← hT]; rfl
  have hNl : N ≤ 4000 := by rw [hN2]; exact Nat.le_trans (Nat.div_le_self _ _) (by omega)
  have q1 : IntKind.i64.wrap ((T : Int) + (s : Int)) = (T : Int) + (s : Int) := IntWalk.i64_in _ (by omega)
  have q2 : IntKind.i64.wrap ((T : Int) + (s : Int) - 1) = (T : Int) + (s : Int) - 1 := IntWalk.i64_in _ (by omega)
  have q3 : ((T : Int) + (s : Int) - 1).tdiv (s : Int) = (N : Int) := by
    rw [Int.tdiv_eq_ediv_of_nonneg (by omega), hN2, Int.natCast_ediv, show (((T + s - 1 : Nat)) : Int) = (T : Int) + (s : Int) - 1 from by omega]
  have q4 : IntKind.i64.wrap (N : Int) = (N : Int) := IntWalk.i64_in _ (by omega)
  have q5 : ((s : Int) == 0) = false := by simp; omega
  have q6 : (s == 0) = false := by simp; omega
  have HNN := Lib.hid hN
  have HT := Lib.hid hT
  have HS := Lib.hid hs
  obtain ⟨B0, hB0⟩ : ∃ B0, B0 = w.heap.size := ⟨_, rfl⟩
  have HB0 := Lib.hid hB0
  unfold patB at hR
  rw [← hN, hT] at hR
  have HRE := Lib.hid hR
  clear hr hm hn hm0 hN hN2 hR hs hB0
  go_enter Try.func20, Try.ntmps20
  go_wp2_with fail
  refine HCK.out.mono ?_
  rintro e w2 ⟨_, rfl, rfl, hg2⟩
  have HG2 := Lib.hid hg2
  clear hg2
  go_wp2_with fail
  clear q1 q2 q3 q4 q5 q6 d1 d2 d1n d2n
  go_loopw [33] (fun iv wr => ∃ i : Nat, iv = .int .i64 (i : Int) ∧ i ≤ n ∧ (l.take i).any (farP N) = false ∧ Grew w wr) (fun iv _ => n - (intOf iv).toNat)
  case atStart => exact ⟨0, rfl, Nat.zero_le _, rfl, HG2.out⟩
  case round =>
    obtain ⟨i, rfl, hi, hany, hgr⟩ := hrel
    by_cases hlt : i < n
    · have d1 : decide ((i : Int) < (n : Int)) = true := decide_eq_true (by omega)
      have d2 : decide (i < n) = true := decide_eq_true hlt
      have i1 : (i : Int) < (n : Int) := by omega
      obtain ⟨ad1, rfl, a0, a1, a2⟩ := at_T43 (HR.out wr hgr) (i : Int) (by omega) (by rw [← HN.out]; exact i1)
      have hat := rdP_at (l := l) (i := i) (by rw [← HN.out]; exact hlt)
      obtain ⟨e, he⟩ : ∃ e, e = rd_T43 l (i : Int) := ⟨_, rfl⟩
      rw [← he] at hat
      rw [Int.toNat_natCast, ← he] at a0 a1 a2
      have wi : IntKind.i64.wrap ((i : Int) + 1) = (i : Int) + 1 := IntWalk.i64_in _ (by omega)
      have HAT := Lib.hid hat
      have HANY := Lib.hid hany
      have HGR := Lib.hid hgr
      have HP := Lib.hid (HOK.out e (List.mem_of_getElem? hat))
      clear hany hat he hgr
      obtain ⟨f0, f1, f2⟩ := e
      simp only at a0 a1 a2
      cases f0 with
      | false =>
        go_wp2_with fail
        go_roundw
        case rel => exact ⟨i + 1, by go_num, by omega, any_take HAT.out HANY.out rfl, Grew.trans HGR.out (Grew.alloc _ _)⟩
        case measure => simp [intOf]; omega
      | true =>
        by_cases hf : (N : Int) ≤ f1
        · have d3 : decide ((N : Int) ≤ f1) = true := decide_eq_true hf
          have hRe := Lib.hid (show R = (⟨#[]⟩, 9) from by
            rw [HRE.out, any_at HAT.out (by simp [farP, hf]), if_pos rfl])
          go_wp2_with fail
          go_ret2
          rw [hRe.out]
          exact ⟨_, rfl, rfl, Grew.trans HGR.out (Grew.alloc _ _)⟩
        · have d3 : decide ((N : Int) ≤ f1) = false := decide_eq_false hf
          go_wp2_with fail
          go_roundw
          case rel => exact ⟨i + 1, by go_num, by omega, any_take HAT.out HANY.out (by simp [farP]; omega), Grew.trans HGR.out (Grew.alloc _ _)⟩
          case measure => simp [intOf]; omega
    · obtain rfl : n = i := by omega
      have d1 : decide ((n : Int) < (n : Int)) = false := decide_eq_false (by omega)
      have d2 : decide (n < n) = false := decide_eq_false (by omega)
      have hany2 : l.any (farP N) = false := by
        rw [HN.out, List.take_length] at hany; exact hany
      have HFAR := Lib.hid hany2
      have HGR := Lib.hid hgr
      clear hany hany2 hgr
      by_cases hbig : 1024 < T
      · have d3 : decide (1024 < T) = true := decide_eq_true hbig
        have d3' : decide (1024 < (T : Int)) = true := decide_eq_true (by omega)
        have hRe := Lib.hid (show R = (⟨#[]⟩, 2) from by
          rw [HRE.out, HFAR.out, if_neg (by simp), if_pos hbig])
        go_wp2_with fail
        go_ret2
        rw [hRe.out]
        exact ⟨_, rfl, rfl, HGR.out⟩
      · have d3 : decide (1024 < T) = false := decide_eq_false hbig
        have d3' : decide (1024 < (T : Int)) = false := decide_eq_false (by omega)
        go_wp2_with fail
        go_loopw [11, 51] (fun v11 iv wr => ∃ (i : Nat) (acc : ByteArray), iv = .int .i64 (i : Int) ∧ i ≤ n ∧ joinP b s (l.drop i) acc = joinP b s l ⟨#[]⟩ ∧ acc.size ≤ 1024 ∧ Own B0 (bytesOf acc) wr v11 ∧ Grew w wr) (fun _ iv _ => n - (intOf iv).toNat)
        case atStart => exact ⟨0, ⟨#[]⟩, rfl, Nat.zero_le _, rfl, by decide, own_nil _ _, HGR.out⟩
        case round =>
          obtain ⟨j, acc, rfl, hj, hjn, hacc, hown, hgr⟩ := hrel
          obtain ⟨A5, c5, rfl⟩ := own_slice hown
          have hm : (bytesOf acc).length = acc.size := bytesOf_length acc
          obtain ⟨m, hmm⟩ : ∃ m, m = (bytesOf acc).length := ⟨_, rfl⟩
          rw [← hmm] at hm
          have HOWN := Lib.hid (fun wx (h : Grew wr wx) => show Own B0 (bytesOf acc) wx (.slice A5 m c5) from by rw [hmm]; exact Own.stable _ _ _ _ _ h hown)
          rw [← hmm]
          have hm2 : m ≤ 1024 := by omega
          have HM := Lib.hid hm
          have HMM := Lib.hid hmm
          have HJN := Lib.hid hjn
          have HGR2 := Lib.hid hgr
          clear hown hmm hm hjn hacc hgr
          by_cases hlt : j < n
          · have d1 : decide ((j : Int) < (n : Int)) = true := decide_eq_true (by omega)
            have d2 : decide (j < n) = true := decide_eq_true hlt
            have i1 : (j : Int) < (n : Int) := by omega
            obtain ⟨ad1, rfl, a0, a1, a2⟩ := at_T43 (HR.out wr HGR2.out) (j : Int) (by omega) (by rw [← HN.out]; exact i1)
            have hat := rdP_at (l := l) (i := j) (by rw [← HN.out]; exact hlt)
            obtain ⟨e, he⟩ : ∃ e, e = rd_T43 l (j : Int) := ⟨_, rfl⟩
            rw [← he] at hat
            rw [Int.toNat_natCast, ← he] at a0 a1 a2
            have wi : IntKind.i64.wrap ((j : Int) + 1) = (j : Int) + 1 := IntWalk.i64_in _ (by omega)
            have HWI := Lib.hid wi
            have wm : IntKind.i64.wrap (1024 - (m : Int)) = 1024 - (m : Int) := IntWalk.i64_in _ (by omega)
            have hjc := joinP_cons (b := b) (s := s) hat acc
            rw [HJN.out] at hjc
            have hos : (outP b s e).size ≤ 5000 := by
              unfold outP
              split
              · have := blk_sizeP b s e.f1.toNat; omega
              · exact HS.out e (List.mem_of_getElem? hat)
            obtain ⟨o, ho⟩ : ∃ o, o = outP b s e := ⟨_, rfl⟩
            rw [← ho] at hjc hos
            obtain ⟨z, hz0⟩ : ∃ z, z = o.size := ⟨_, rfl⟩
            have hz0' := hz0.symm
            have HJC := Lib.hid hjc
            have HO := Lib.hid ho
            have hfar := fun hf => List.any_eq_false.1 HFAR.out e (List.mem_of_getElem? hat) hf
            have hpos := HOK.out e (List.mem_of_getElem? hat)
            have HBO := Lib.hid (show (bytesOf acc).length + o.size ≤ 140737488355328 from by rw [← HMM.out]; omega)
            have HZ0 := Lib.hid hz0
            clear hjc ho hat he hos hz0
            obtain ⟨f0, f1, f2⟩ := e
            simp only at a0 a1 a2
            cases f0 with
            | false =>
              have ho2 : f2 = o := HO.out.symm
              rw [ho2] at a2
              clear ho2 hfar hpos
              by_cases hbg : 1024 < m + z
              · have d3 : decide (1024 - (m : Int) < (z : Int)) = true := decide_eq_true (by omega)
                have hRe := Lib.hid (show R = (⟨#[]⟩, 2) from by
                  rw [HRE.out, HFAR.out, if_neg (by simp), if_neg hbig, HJC.out, if_pos (by rw [← HM.out, ← HZ0.out]; exact hbg)])
                go_wp2_with fail
                go_ret2
                rw [hRe.out]
                exact ⟨_, rfl, rfl, Grew.trans HGR2.out (Grew.alloc _ _)⟩
              · have d3 : decide (1024 - (m : Int) < (z : Int)) = false := decide_eq_false (by omega)
                have hjx : joinP b s (l.drop (j + 1)) (acc ++ o) = joinP b s l ⟨#[]⟩ := by
                  rw [HJC.out, if_neg (by rw [← HM.out, ← HZ0.out]; exact hbg)]
                have HJX := Lib.hid hjx
                clear hjx
                obtain ⟨W2, hW2⟩ : ∃ W2, W2 = wr.alloc (.cells #[.bool false, .int .i64 f1, .string o] 43) := ⟨_, rfl⟩
                have HW2 := Lib.hid hW2
                have hg2 : Grew wr W2 := by rw [hW2]; exact Grew.alloc _ _
                have HG2 := Lib.hid (Grew.trans HGR2.out hg2)
                have HO2 := Lib.hid (HOWN.out W2 hg2)
                clear hW2 hg2
                go_upto_region 23 with fail
                rw [← HW2.out]
                go_wp2_with (at_builtin; refine print_append_str (w0 := w) B0 (by rfl) (.tmp 80) (.tmp 81) 23 9 5 (by rfl) Try.underlying23 Try.underlying9 info5 _ (bytesOf acc) o (by rfl) (by rfl) HO2.out (by rw [HB0.out]; exact HG2.out) (by rw [HB0.out]; exact HG2.out.size) HBO.out ?_; intro v1 w6 hown6 hbel6 hgr6; rw [← bytesOf_app] at hown6; rw [HB0.out] at hbel6; replace hown6 := Lib.hid hown6; replace hbel6 := Lib.hid hbel6; clear hgr6)
                go_roundw
                case rel => exact ⟨j + 1, acc ++ o, by go_num, by omega, HJX.out, by rw [ByteArray.size_append, ← HM.out, ← HZ0.out]; omega, hown6.out, hbel6.out⟩
                case measure => have wi := HWI.out; simp [intOf, wi]; omega
            | true =>
              have ho2 : o = blkT b s f1.toNat := HO.out
              have hp1 : 0 ≤ f1 := hpos rfl
              have hp2 : f1 < (N : Int) := by
                simp only [farP, Bool.true_and, decide_eq_true_eq] at hfar
                exact Int.not_le.1 hfar
              obtain ⟨q, rfl⟩ := Int.eq_ofNat_of_zero_le hp1
              rw [Int.toNat_natCast] at ho2
              have hq := (cnt_lt b s q (by omega)).1 (by rw [← HNN.out]; omega)
              rw [HT.out] at hq
              rw [blk_win b s q (by rw [HT.out]; omega), HT.out] at ho2
              obtain ⟨u, hu⟩ : ∃ u, u = q * s := ⟨_, rfl⟩
              rw [← hu] at hq ho2
              have r1 : IntKind.i64.wrap ((q : Int) * (s : Int)) = (u : Int) := by
                rw [show (q : Int) * (s : Int) = (u : Int) from by rw [hu]; push_cast; rfl]
                exact IntWalk.i64_in _ (by omega)
              have r2 : IntKind.i64.wrap ((u : Int) + (s : Int)) = (u : Int) + (s : Int) := IntWalk.i64_in _ (by omega)
              obtain ⟨y, hy⟩ : ∃ y, y = min (u + s) T := ⟨_, rfl⟩
              rw [← hy] at ho2
              have r3 := slice_min b u y (by omega) (by rw [HT.out]; omega)
              rw [← ho2] at r3
              have r4 : (if (T : Int) < (u : Int) + (s : Int) then (T : Int) else (u : Int) + (s : Int)) = (y : Int) := by split <;> omega
              have r5 : (if (u : Int) + (s : Int) < (T : Int) then (u : Int) + (s : Int) else (T : Int)) = (y : Int) := by split <;> omega
              clear hp1 hp2 ho2 hfar hpos hq hu hy
              by_cases hbg : 1024 < m + z
              · have d3 : decide (1024 - (m : Int) < (z : Int)) = true := decide_eq_true (by omega)
                have hRe := Lib.hid (show R = (⟨#[]⟩, 2) from by
                  rw [HRE.out, HFAR.out, if_neg (by simp), if_neg hbig, HJC.out, if_pos (by rw [← HM.out, ← HZ0.out]; exact hbg)])
                go_wp2_with fail
                go_ret2
                rw [hRe.out]
                exact ⟨_, rfl, rfl, Grew.trans HGR2.out (Grew.alloc _ _)⟩
              · have d3 : decide (1024 - (m : Int) < (z : Int)) = false := decide_eq_false (by omega)
                have hjx : joinP b s (l.drop (j + 1)) (acc ++ o) = joinP b s l ⟨#[]⟩ := by
                  rw [HJC.out, if_neg (by rw [← HM.out, ← HZ0.out]; exact hbg)]
                have HJX := Lib.hid hjx
                clear hjx
                obtain ⟨W2, hW2⟩ : ∃ W2, W2 = wr.alloc (.cells #[.bool true, .int .i64 (q : Int), .string f2] 43) := ⟨_, rfl⟩
                have HW2 := Lib.hid hW2
                have hg2 : Grew wr W2 := by rw [hW2]; exact Grew.alloc _ _
                have HG2 := Lib.hid (Grew.trans HGR2.out hg2)
                have HO2 := Lib.hid (HOWN.out W2 hg2)
                clear hW2 hg2
                go_upto_region 23 with fail
                rw [← HW2.out]
                go_wp2_with (at_builtin; refine print_append_str (w0 := w) B0 (by rfl) (.tmp 80) (.tmp 81) 23 9 5 (by rfl) Try.underlying23 Try.underlying9 info5 _ (bytesOf acc) o (by rfl) (by rfl) HO2.out (by rw [HB0.out]; exact HG2.out) (by rw [HB0.out]; exact HG2.out.size) HBO.out ?_; intro v1 w6 hown6 hbel6 hgr6; rw [← bytesOf_app] at hown6; rw [HB0.out] at hbel6; replace hown6 := Lib.hid hown6; replace hbel6 := Lib.hid hbel6; clear hgr6)
                go_roundw
                case rel => exact ⟨j + 1, acc ++ o, by go_num, by omega, HJX.out, by rw [ByteArray.size_append, ← HM.out, ← HZ0.out]; omega, hown6.out, hbel6.out⟩
                case measure => have wi := HWI.out; simp [intOf, wi]; omega
          · obtain rfl : n = j := by omega
            have d1 : decide ((n : Int) < (n : Int)) = false := decide_eq_false (by omega)
            have d2 : decide (n < n) = false := decide_eq_false (by omega)
            have hRe := Lib.hid (show R = (acc, 0) from by
              have h9 := HJN.out
              rw [show l.drop n = [] from by rw [HN.out]; exact List.drop_length, joinP] at h9
              rw [HRE.out, HFAR.out, if_neg (by simp), if_neg hbig, ← h9])
            have hst := Kd.C_string (P := Try.prog) (w := wr) (c := c5) (A := A5) Try.underlying23 Try.underlying5 Try.underlying9 (by
              obtain ⟨A_, c_, hv_, h1_, h2_, hC_⟩ := own_C (HOWN.out wr (Grew.refl _))
              injection hv_ with e1 e2 e3
              rw [← e1] at hC_; exact hC_)
            rw [← HMM.out, str_bytes] at hst
            go_wp2_with fail
            go_ret2
            rw [hRe.out]
            exact ⟨_, rfl, rfl, HGR2.out⟩
end Go.Proofs.Ytimcafohmahapaa.F

-- DelH
namespace Go.Proofs.Ytimcafohmahapaa.F
open Go Go.RowKit Go.Proofs.YtimcafohmahapaaW.PrintWords Go.Proofs.YtimcafohmahapaaW.PrintLast Go.Proofs.YtimcafohmahapaaW.PrintMore Go.Proofs.YtimcafohmahapaaM Go.Proofs.YtimcafohmahapaaR
attribute [local go_sem] max2_int min2_int max_two min_two
set_option linter.unusedSimpArgs false
set_option linter.unusedVariables false
set_option maxRecDepth 100000
end Go.Proofs.Ytimcafohmahapaa.F

-- DelT
namespace Go.Proofs.Ytimcafohmahapaa.F
open Go Go.RowKit Go.Proofs.YtimcafohmahapaaW.PrintWords Go.Proofs.YtimcafohmahapaaW.PrintLast Go.Proofs.YtimcafohmahapaaW.PrintMore Go.Proofs.YtimcafohmahapaaM Go.Proofs.YtimcafohmahapaaR
set_option linter.unusedSimpArgs false
set_option linter.unusedVariables false
set_option maxRecDepth 100000
/-- all the bytes of some pieces -/
def catP (b : ByteArray) (s : Nat) : List Pc → ByteArray
  | [] => ⟨#[]⟩
  | p :: l => outP b s p ++ catP b s l
theorem ba_assoc (x y z : ByteArray) : x ++ y ++ z = x ++ (y ++ z) := by
  apply ByteArray.ext
  simp [ByteArray.data_append, Array.append_assoc]
theorem ba_nil (x : ByteArray) : x ++ (⟨#[]⟩ : ByteArray) = x := by
  apply ByteArray.ext
  simp [ByteArray.data_append]
theorem nil_ba (x : ByteArray) : (⟨#[]⟩ : ByteArray) ++ x = x := by
  apply ByteArray.ext
  simp [ByteArray.data_append]
theorem catP_snoc (b : ByteArray) (s : Nat) (p : Pc) : ∀ l : List Pc, catP b s (l ++ [p]) = catP b s l ++ outP b s p
  | [] => by simp only [catP, List.nil_append, ba_nil, nil_ba]
  | x :: l => by simp only [catP, List.cons_append, catP_snoc b s p l, ba_assoc]
theorem joinP_cat (b : ByteArray) (s : Nat) : ∀ (l : List Pc) (acc : ByteArray), acc.size + (catP b s l).size ≤ 1024 → joinP b s l acc = some (acc ++ catP b s l)
  | [], acc, h => by simp only [joinP, catP, ba_nil]
  | p :: l, acc, h => by
    simp only [catP, ByteArray.size_append] at h
    simp only [joinP, catP]
    rw [if_neg (by omega), joinP_cat b s l _ (by rw [ByteArray.size_append]; omega), ba_assoc]
/-- is the last one of bytes, or, where there is none, b? -/
def prevL (b : Bool) (l : List Pc) : Bool := match l.getLast? with
  | none => b
  | some p => !p.f0
theorem prevL_cons (b : Bool) (x : Pc) (l : List Pc) : prevL b (x :: l) = prevL (!x.f0) l := by
  unfold prevL
  cases l with
  | nil => rfl
  | cons y l =>
    rw [List.getLast?_cons_cons]
    cases h : (y :: l).getLast? with
    | none => simp at h
    | some q => rfl
theorem mayDL_snoc (p : Pc) : ∀ (l : List Pc) (b : Bool), mayDL b (l ++ [p]) = (mayDL b l && okP (prevL b l) p)
  | [], b => by simp [mayDL, prevL]
  | x :: l, b => by
    simp only [List.cons_append, mayDL]
    rw [mayDL_snoc p l (!x.f0), prevL_cons, Bool.and_assoc]
theorem nil_or_snoc (l : List Pc) : l = [] ∨ ∃ a p, l = a ++ [p] := by
  rcases List.eq_nil_or_concat l with h | ⟨a, p, h⟩
  · exact .inl h
  · exact .inr ⟨a, p, by rw [h]; simp⟩
/-- what holds of the pieces that are made of the first i bytes -/
structure InvD (b : ByteArray) (s : Nat) (n : Nat) (nc : Prop) (t : ByteArray) (i : Nat) (acc : List Pc) : Prop where
  may : mayDL false acc = true
  len : acc.length ≤ i
  near : ∀ p ∈ acc, farP n p = false
  small : ∀ p ∈ acc, p.f2.size ≤ i
  cat : nc → catP b s acc = t.extract 0 i
theorem ne_nil_size {x : ByteArray} (h : x.size ≠ 0) : x.toList ≠ [] := fun e => h (by rw [(size_toList x).1 e]; rfl)
theorem inv_copy {b : ByteArray} {s n : Nat} {nc : Prop} {t : ByteArray} {i m : Nat} {acc : List Pc} (h : InvD b s n nc t i acc) (k : Nat) (hk : k < n) (hm : 1 ≤ m) (hc : nc → t.extract 0 i ++ blkT b s k = t.extract 0 (i + m)) : InvD b s n nc t (i + m) (acc ++ [⟨true, (k : Int), ⟨#[]⟩⟩]) where
  may := by
    rw [mayDL_snoc, h.may]
    unfold okP
    rw [if_pos rfl]
    simp [ByteArray.toList_eq]
  len := by have := h.len; simp; omega
  near := by
    intro p hp
    rcases List.mem_append.1 hp with hp | hp
    · exact h.near p hp
    · obtain rfl := List.mem_singleton.1 hp
      simp [farP]; omega
  small := by
    intro p hp
    rcases List.mem_append.1 hp with hp | hp
    · have := h.small p hp; omega
    · obtain rfl := List.mem_singleton.1 hp
      exact Nat.zero_le _
  cat := fun c => by
    rw [catP_snoc, h.cat c]
    unfold outP
    rw [if_pos rfl, Int.toNat_natCast]
    exact hc c
theorem inv_bys {b : ByteArray} {s n : Nat} {nc : Prop} {t : ByteArray} {i : Nat} {acc : List Pc} (h : InvD b s n nc t i acc) (hi : i < t.size) : InvD b s n nc t (i + 1) (bysD acc (strOfNums [bt t (i : Int)])) := by
  have hsz : (strOfNums [bt t (i : Int)]).size = 1 := by rw [str_size]; rfl
  have hcat := ext_snoc t i hi
  obtain ⟨x, hx⟩ : ∃ x, x = strOfNums [bt t (i : Int)] := ⟨_, rfl⟩
  rw [← hx] at hsz hcat ⊢
  clear hx
  have new : (∀ p, acc.getLast? = some p → p.f0 = true) → InvD b s n nc t (i + 1) (acc ++ [⟨false, 0, x⟩]) := fun hl => {
    may := by
      rw [mayDL_snoc, h.may]
      unfold okP
      rw [if_neg (by simp), Bool.true_and]
      refine decide_eq_true ⟨rfl, ne_nil_size (show x.size ≠ 0 by omega), ?_⟩
      unfold prevL
      cases hg : acc.getLast? with
      | none => rfl
      | some p => simp only; rw [hl p hg]; rfl
    len := by have := h.len; simp; omega
    near := by
      intro p hp
      rcases List.mem_append.1 hp with hp | hp
      · exact h.near p hp
      · obtain rfl := List.mem_singleton.1 hp
        rfl
    small := by
      intro p hp
      rcases List.mem_append.1 hp with hp | hp
      · have := h.small p hp; omega
      · obtain rfl := List.mem_singleton.1 hp
        show x.size ≤ i + 1
        omega
    cat := fun c => by
      rw [catP_snoc, h.cat c]
      unfold outP
      rw [if_neg (by simp)]
      exact hcat }
  rcases nil_or_snoc acc with rfl | ⟨a, p, rfl⟩
  · exact new (fun p hp => by simp at hp)
  · have hg : (a ++ [p]).getD ((a ++ [p]).length - 1) z43 = p := by
      rw [List.length_append, List.length_singleton, Nat.add_sub_cancel, List.getD_eq_getElem?_getD, List.getElem?_append_right (Nat.le_refl _)]
      simp
    unfold bysD
    rw [hg]
    by_cases hp0 : p.f0 = true
    · rw [if_neg (fun hh => by rw [hh.2] at hp0; cases hp0)]
      exact new (fun q hq => by simp at hq; rw [← hq]; exact hp0)
    · have hp1 : p.f0 = false := by simpa using hp0
      rw [if_pos ⟨by simp, hp1⟩]
      have hset : (a ++ [p]).set ((a ++ [p]).length - 1) ⟨p.f0, p.f1, p.f2 ++ x⟩ = a ++ [⟨p.f0, p.f1, p.f2 ++ x⟩] := by
        rw [List.length_append, List.length_singleton, Nat.add_sub_cancel, List.set_append_right _ _ (Nat.le_refl _)]
        simp
      rw [hset]
      have hm := h.may
      rw [mayDL_snoc, Bool.and_eq_true] at hm
      have ho := hm.2
      unfold okP at ho
      rw [if_neg hp0] at ho
      have ho := of_decide_eq_true ho
      exact {
        may := by
          rw [mayDL_snoc, hm.1]
          unfold okP
          rw [if_neg hp0, Bool.true_and]
          exact decide_eq_true ⟨ho.1, ne_nil_size (by rw [ByteArray.size_append]; omega), ho.2.2⟩
        len := by have := h.len; simp at this ⊢; omega
        near := by
          intro q hq
          rcases List.mem_append.1 hq with hq | hq
          · exact h.near q (List.mem_append.2 (.inl hq))
          · obtain rfl := List.mem_singleton.1 hq
            simp [farP, hp1]
        small := by
          intro q hq
          rcases List.mem_append.1 hq with hq | hq
          · have := h.small q (List.mem_append.2 (.inl hq)); omega
          · obtain rfl := List.mem_singleton.1 hq
            have := h.small p (by simp)
            show (p.f2 ++ x).size ≤ i + 1
            rw [ByteArray.size_append]; omega
        cat := fun c => by
          have h1 := h.cat c
          rw [catP_snoc] at h1 ⊢
          unfold outP at h1 ⊢
          rw [if_neg hp0] at h1
          rw [if_neg hp0, ← ba_assoc, h1]
          exact hcat }
/-- no two unlike texts of the list have one signature -/
def NoClash (key : ByteArray) (L : List ByteArray) : Prop := ∀ x ∈ L, ∀ y ∈ L, oneS key x = oneS key y → x = y
/-- every window of a text -/
def winT (t : ByteArray) (s n : Nat) : List ByteArray := (List.range n).map fun i => t.extract i (min (i + s) t.size)
theorem win_mem {t : ByteArray} {s n i : Nat} (h : i < n) : t.extract i (min (i + s) t.size) ∈ winT t s n := List.mem_map.2 ⟨i, List.mem_range.2 h, rfl⟩
theorem blk_mem {t : ByteArray} {s n i : Nat} (h : i < n) : blkT t s i ∈ blksT t s n := List.mem_map.2 ⟨i, List.mem_range.2 h, rfl⟩
theorem winT_succ (t : ByteArray) (s n : Nat) : winT t s (n + 1) = winT t s n ++ [t.extract n (min (n + s) t.size)] := by
  unfold winT
  rw [List.range_succ, List.map_append]
  rfl
theorem winT_len (t : ByteArray) (s n : Nat) : (winT t s n).length = n := by unfold winT; simp
theorem mkD_inv (key b t : ByteArray) (s : Nat) (hs : 1 ≤ s) (nc : Prop) (hnc : nc → NoClash key (blksT b s (cntT b s) ++ winT t s t.size)) :
    ∀ (d i f : Nat) (acc : List Pc), t.size - i = d → i ≤ t.size → t.size < i + f → InvD b s (cntT b s) nc t i acc →
      InvD b s (cntT b s) nc t t.size (mkD key ((blksT b s (cntT b s)).map (oneS key)) s (lastT b.size s) t f i acc) := by
  intro d
  induction d using Nat.strongRecOn with
  | _ d ih =>
    intro i f acc hd hi hf hinv
    by_cases hlt : i < t.size
    · obtain ⟨f, rfl⟩ : ∃ q, f = q + 1 := ⟨f - 1, by omega⟩
      obtain ⟨sg, hsg⟩ : ∃ sg, sg = (blksT b s (cntT b s)).map (oneS key) := ⟨_, rfl⟩
      have hsl : sg.length = cntT b s := by rw [hsg, List.length_map, blksT_len]
      have hat : ∀ m, m < cntT b s → sg[m]? = some (oneS key (blkT b s m)) := fun m hm => by rw [hsg]; exact signs_at key b s m hm
      rw [← hsg] at ih ⊢
      rw [mkD, if_pos hlt]
      have bys := ih (t.size - (i + 1)) (by omega) (i + 1) f (bysD acc (strOfNums [bt t (i : Int)])) rfl (by omega) (by omega) (inv_bys hinv hlt)
      have same : ∀ (k : Nat), k < cntT b s → ∀ z, oneS key (t.extract i z) = oneS key (blkT b s k) → z = min (i + s) t.size → nc → t.extract i z = blkT b s k := fun k hk z h1 h2 c => by
        subst h2
        exact hnc c _ (List.mem_append.2 (.inr (win_mem hlt))) _ (List.mem_append.2 (.inl (blk_mem hk))) h1
      by_cases hfull : s ≤ t.size - i
      · rw [if_pos hfull]
        cases hfi : (wholeS sg s (lastT b.size s)).findIdx? (isS (oneS key (t.extract i (i + s)))) with
        | none => exact bys
        | some k =>
          simp only
          obtain ⟨hk, hp, -⟩ := List.findIdx?_eq_some_iff_getElem.1 hfi
          have hkw : (wholeS sg s (lastT b.size s))[k]? = sg[k]? ∧ k < cntT b s := by
            rw [← hsl]
            unfold wholeS at hk ⊢
            split
            · rename_i hc
              rw [if_pos hc, List.length_take] at hk
              exact ⟨List.getElem?_take_of_lt (by omega), by omega⟩
            · rename_i hc
              rw [if_neg hc] at hk
              exact ⟨rfl, hk⟩
          have hone := (isS_iff _ _).1 hp
          have hgk : (wholeS sg s (lastT b.size s))[k]? = some (oneS key (blkT b s k)) := by rw [hkw.1, hat k hkw.2]
          rw [List.getElem?_eq_getElem hk, Option.some.injEq] at hgk
          rw [hgk] at hone
          refine ih (t.size - (i + s)) (by omega) (i + s) f _ rfl (by omega) (by omega) (inv_copy hinv k hkw.2 hs fun c => ?_)
          rw [← same k hkw.2 (i + s) hone.symm (by omega) c, ByteArray.extract_append_extract]
          congr 1 <;> omega
      · rw [if_neg hfull]
        by_cases hrest : t.size - i = lastT b.size s ∧ isS (oneS key (t.extract i t.size)) (sg.getD (sg.length - 1) z64) = true
        · rw [if_pos hrest]
          have hpos : 0 < cntT b s := by
            rcases Nat.eq_zero_or_pos (cntT b s) with h | h
            · have := (lastT_zero (t := b) hs).2 h
              omega
            · exact h
          have hone := (isS_iff _ _).1 hrest.2
          rw [List.getD_eq_getElem?_getD, hsl, hat _ (by omega)] at hone
          have h9 := inv_copy (m := t.size - i) hinv (cntT b s - 1) (by omega) (by omega) fun c => by
            rw [← same (cntT b s - 1) (by omega) t.size hone.symm (by omega) c, ByteArray.extract_append_extract]
            congr 1 <;> omega
          rw [show i + (t.size - i) = t.size from by omega] at h9
          rw [hsl]
          exact h9
        · rw [if_neg hrest]
          exact bys
    · rw [mkD_end hlt]
      have : i = t.size := by omega
      rw [← this]
      exact hinv
theorem mkD_back (key b t : ByteArray) (s : Nat) (hs : 1 ≤ s) (hs2 : s ≤ 128) (hb : b.size ≤ 1000) (ht : t.size ≤ 1000) (R : List Pc) (hR : R = mkD key ((blksT b s (cntT b s)).map (oneS key)) s (lastT b.size s) t (t.size + 1) 0 []) :
    mayD R = true ∧ R.length ≤ t.size ∧ (∀ p ∈ R, p.f2.size ≤ t.size) ∧ (NoClash key (blksT b s (cntT b s) ++ winT t s t.size) → patP b (s : Int) R = (t, 0)) := by
  have h := mkD_inv key b t s hs _ id t.size 0 (t.size + 1) [] (by omega) (by omega) (by omega) ⟨rfl, Nat.le_refl _, fun p hp => by simp at hp, fun p hp => by simp at hp, fun _ => by simp [catP]; rfl⟩
  rw [← hR] at h
  have hm : mayD R = true := by
    unfold mayD
    rw [h.may, decide_eq_true (by have := h.len; omega)]
    rfl
  refine ⟨hm, h.len, h.small, fun c => ?_⟩
  have hcat := h.cat c
  rw [ByteArray.extract_zero_size] at hcat
  unfold patP patB
  rw [if_pos hm, if_neg (by omega), Int.toNat_natCast, if_neg (by
    intro e
    obtain ⟨p, hp, hf⟩ := List.any_eq_true.1 e
    rw [h.near p hp] at hf
    cases hf), if_neg (by omega), joinP_cat _ _ _ _ (by rw [hcat]; have h0 : (⟨#[]⟩ : ByteArray).size = 0 := rfl; omega), hcat, nil_ba]
end Go.Proofs.Ytimcafohmahapaa.F

-- DelJ
namespace Go.Proofs.Ytimcafohmahapaa.F
open Go Go.RowKit Go.Proofs.YtimcafohmahapaaW.PrintWords Go.Proofs.YtimcafohmahapaaW.PrintLast Go.Proofs.YtimcafohmahapaaW.PrintMore Go.Proofs.YtimcafohmahapaaM Go.Proofs.YtimcafohmahapaaR
attribute [local go_sem] max2_int min2_int max_two min_two
set_option linter.unusedSimpArgs false
set_option linter.unusedVariables false
set_option maxRecDepth 100000
def gS (L : List ByteArray) (i : Nat) : ByteArray := L.getD i ByteArray.empty
theorem gS_mem {L : List ByteArray} {i : Nat} (h : i < L.length) : gS L i ∈ L := by
  unfold gS
  rw [List.getD_eq_getElem?_getD, List.getElem?_eq_getElem h]
  exact List.getElem_mem h
theorem mem_gS {L : List ByteArray} {x : ByteArray} (h : x ∈ L) : ∃ i, i < L.length ∧ gS L i = x := by
  obtain ⟨i, hi, hx⟩ := List.mem_iff_getElem.1 h
  refine ⟨i, hi, ?_⟩
  unfold gS
  rw [List.getD_eq_getElem?_getD, List.getElem?_eq_getElem hi]
  exact hx
theorem clash_of {key : ByteArray} {L : List ByteArray} (h : ¬ NoClash key L) : ∃ I J, J < I ∧ I < L.length ∧ gS L I ≠ gS L J ∧ oneS key (gS L I) = oneS key (gS L J) := by
  unfold NoClash at h
  simp only [Classical.not_forall] at h
  obtain ⟨x, hx, y, hy, he, hn⟩ := h
  obtain ⟨i, hi, rfl⟩ := mem_gS hx
  obtain ⟨j, hj, rfl⟩ := mem_gS hy
  rcases Nat.lt_trichotomy i j with h | h | h
  · exact ⟨j, i, h, hj, fun e => hn e.symm, he.symm⟩
  · subst h; exact absurd rfl hn
  · exact ⟨i, j, h, hi, hn, he⟩
set_option maxHeartbeats 8000000 in
theorem clash_c (w : World) (key : ByteArray) (L : List ByteArray) (A : Option Addr) (c : Nat) (hr : Kd.C Kd.string w A L.length L) (hc : L.length ≤ c) (hk : key.size ≤ 10000000) (hl : L.length ≤ 100000) (hb : ∀ b ∈ L, b.size ≤ 10000000)
    (I J : Nat) (hJ : J < I) (hI : I < L.length) (hne : gS L I ≠ gS L J) (heq : oneS key (gS L I) = oneS key (gS L J)) :
    Calls Try.prog 24 #[.string key, .slice A L.length c] w (Tells w (Is (.bool true))) := by
  have HR := Lib.hid (fun wx (h : Grew w wx) (i : Nat) (hi : i < L.length) => strs_cell (Kd.C_below hr h) i hi)
  have HON := Lib.hid (fun (i : Nat) (hi : i < L.length) (wx : World) => show Calls Try.prog 37 #[.string key, .string (gS L i)] wx (Tells wx (Is (.agg #[.int .u32 (oneS key (gS L i)).f0, .string (oneS key (gS L i)).f1]))) from rone_c wx key (gS L i) hk (hb _ (gS_mem hi)))
  have HNE := Lib.hid hne
  have HEQ := Lib.hid heq
  obtain ⟨n, hn⟩ : ∃ n, n = L.length := ⟨_, rfl⟩
  rw [← hn] at HR HON hc hl hI ⊢
  have HIJ := Lib.hid (And.intro hJ hI)
  clear hr hb hne heq hn hJ hI hk
  go_enter Try.func24, Try.ntmps24
  go_wp2_with fail
  go_loopw [5] (fun iv wr => ∃ i : Nat, iv = .int .i64 (i : Int) ∧ i ≤ I ∧ Grew w wr) (fun iv _ => n - (intOf iv).toNat)
  case atStart => exact ⟨0, rfl, Nat.zero_le _, Grew.refl _⟩
  case round =>
    obtain ⟨i, rfl, hi, hgr⟩ := hrel
    have HII := Lib.hid hi
    have hin : i < n := by have := HIJ.out; omega
    have d1 : decide ((i : Int) < (n : Int)) = true := decide_eq_true (by omega)
    have d2 : decide (i < n) = true := decide_eq_true hin
    have wi : IntKind.i64.wrap ((i : Int) + 1) = (i : Int) + 1 := IntWalk.i64_in _ (by omega)
    have HWI := Lib.hid wi
    have HGR := Lib.hid hgr
    clear hgr wi hi
    go_wp2_with fail
    clear d1 d2
    go_loopw [6] (fun jv wr => ∃ j : Nat, jv = .int .i64 (j : Int) ∧ j ≤ i ∧ (i = I → j ≤ J) ∧ Grew w wr) (fun jv _ => i - (intOf jv).toNat)
    case atStart => exact ⟨0, rfl, Nat.zero_le _, fun _ => Nat.zero_le _, HGR.out⟩
    case round =>
      obtain ⟨j, rfl, hj, hjJ, hgr⟩ := hrel
      by_cases hlt : j < i
      · have d1 : decide ((j : Int) < (i : Int)) = true := decide_eq_true (by omega)
        have d2 : decide (j < i) = true := decide_eq_true hlt
        have i1 : (i : Int) < (n : Int) := by omega
        have j1 : (j : Int) < (n : Int) := by omega
        have j2 : j < n := by omega
        have wj : IntKind.i64.wrap ((j : Int) + 1) = (j : Int) + 1 := IntWalk.i64_in _ (by omega)
        have HWJ := Lib.hid wj
        have HJJ := Lib.hid hjJ
        have HG2 := Lib.hid hgr
        obtain ⟨ad1, rfl, -⟩ := HR.out wr hgr i hin
        have HC1 := Lib.hid (fun wx (h : Grew wr wx) => show wx.cell? (ad1.add i) = some (.string (gS L i)) from by
          obtain ⟨ad2, h1, h2⟩ := HR.out wx (Grew.trans HG2.out h) i hin
          injection h1 with h1
          rw [h1]; exact h2)
        have HC2 := Lib.hid (fun wx (h : Grew wr wx) => show wx.cell? (ad1.add j) = some (.string (gS L j)) from by
          obtain ⟨ad2, h1, h2⟩ := HR.out wx (Grew.trans HG2.out h) j j2
          injection h1 with h1
          rw [h1]; exact h2)
        have HX := Lib.hid (HON.out i hin)
        have HY := Lib.hid (HON.out j j2)
        have hpair : i = I → j = J → gS L i ≠ gS L j ∧ oneS key (gS L i) = oneS key (gS L j) := fun h1 h2 => by
          subst h1 h2
          exact ⟨HNE.out, HEQ.out⟩
        obtain ⟨x, hx⟩ : ∃ x, x = gS L i := ⟨_, rfl⟩
        obtain ⟨y, hy⟩ : ∃ y, y = gS L j := ⟨_, rfl⟩
        rw [← hx] at HC1 HX hpair
        rw [← hy] at HC2 HY hpair
        obtain ⟨p, hp⟩ : ∃ p, p = oneS key x := ⟨_, rfl⟩
        obtain ⟨q, hq⟩ : ∃ q, q = oneS key y := ⟨_, rfl⟩
        rw [← hp] at HX hpair
        rw [← hq] at HY hpair
        have HPAIR := Lib.hid hpair
        clear hx hy hp hq hpair hgr wj hjJ
        obtain ⟨p0, p1⟩ := p
        obtain ⟨q0, q1⟩ := q
        simp only at HX HY
        by_cases hxy : x = y
        · have HNP := Lib.hid (show i = I → j = J → False from fun h1 h2 => (HPAIR.out h1 h2).1 hxy)
          subst hxy
          go_wp2_with fail
          apply region_grew [Is _, Is _, Is _, Is _, Is _, Is _, Is _, Is _, Is _, Is _, Is undef, Is undef, Is undef, Is undef, Is undef, Is undef, Is undef, Is undef, Is undef, Is undef, Is undef] [([(1, none)], none), ([(5, none)], none), ([(18, some 0), (19, some 1)], none), ([(20, some 2)], none), ([(1, none)], none), ([(6, none)], none), ([(22, some 4), (23, some 5)], none), ([(24, some 6)], none), ([(21, some 3), (25, some 7)], none), ([(26, some 8)], none), ([(0, none), (27, some 9)], some (27, true)), ([(1, none), (27, some 9)], some (27, true)), ([(5, none), (27, some 9)], some (27, true)), ([(29, some 11), (30, some 12), (27, some 9)], some (27, true)), ([(31, some 13), (27, some 9)], some (27, true)), ([(28, some 10), (32, some 14), (27, some 9)], some (27, true)), ([(0, none), (27, some 9)], some (27, true)), ([(1, none), (27, some 9)], some (27, true)), ([(6, none), (27, some 9)], some (27, true)), ([(35, some 17), (36, some 18), (27, some 9)], some (27, true)), ([(37, some 19), (27, some 9)], some (27, true))] [(18, 0), (19, 1), (20, 2), (21, 3), (22, 4), (23, 5), (24, 6), (25, 7), (26, 8), (27, 9), (28, 10), (29, 11), (30, 12), (31, 13), (32, 14), (33, 15), (34, 16), (35, 17), (36, 18), (37, 19), (38, 20)] rfl (by kernel_rfl) (by kernel_rfl) (show Stable Grew _ from ⟨Is.stable _, Is.stable _, Is.stable _, Is.stable _, Is.stable _, Is.stable _, Is.stable _, Is.stable _, Is.stable _, Is.stable _, Is.stable _, Is.stable _, Is.stable _, Is.stable _, Is.stable _, Is.stable _, Is.stable _, Is.stable _, Is.stable _, Is.stable _, Is.stable _, trivial⟩)
          · show OpsHold _ _ _ _ _ _ _ _ _
            refine ⟨fun a_ wx hR hD K hK => ?_, ?_⟩
            · have hG : Grew wr wx := (Grew.drew _).trans hR
              simp [Deps, Dep, at_, Is] at hD
              go_simp
              exact hK _ _ (Grew.refl _) rfl
            refine ⟨fun a_ wx hR hD K hK => ?_, ?_⟩
            · have hG : Grew wr wx := (Grew.drew _).trans hR
              simp [Deps, Dep, at_, Is] at hD
              go_simp
              exact hK _ _ (Grew.refl _) rfl
            refine ⟨fun a_ wx hR hD K hK => ?_, ?_⟩
            · have hG : Grew wr wx := (Grew.drew _).trans hR
              simp [Deps, Dep, at_, Is] at hD
              obtain ⟨hd0, hd1⟩ := hD
              go_simp
              exact hK _ _ (Grew.refl _) rfl
            refine ⟨fun a_ wx hR hD K hK => ?_, ?_⟩
            · have hG : Grew wr wx := (Grew.drew _).trans hR
              simp [Deps, Dep, at_, Is] at hD
              have e1 := HC1.out wx hG
              go_simp
              exact hK _ _ (Grew.refl _) rfl
            refine ⟨fun a_ wx hR hD K hK => ?_, ?_⟩
            · have hG : Grew wr wx := (Grew.drew _).trans hR
              simp [Deps, Dep, at_, Is] at hD
              go_simp
              exact hK _ _ (Grew.refl _) rfl
            refine ⟨fun a_ wx hR hD K hK => ?_, ?_⟩
            · have hG : Grew wr wx := (Grew.drew _).trans hR
              simp [Deps, Dep, at_, Is] at hD
              go_simp
              exact hK _ _ (Grew.refl _) rfl
            refine ⟨fun a_ wx hR hD K hK => ?_, ?_⟩
            · have hG : Grew wr wx := (Grew.drew _).trans hR
              simp [Deps, Dep, at_, Is] at hD
              obtain ⟨hd0, hd1⟩ := hD
              go_simp
              exact hK _ _ (Grew.refl _) rfl
            refine ⟨fun a_ wx hR hD K hK => ?_, ?_⟩
            · have hG : Grew wr wx := (Grew.drew _).trans hR
              simp [Deps, Dep, at_, Is] at hD
              have e2 := HC2.out wx hG
              go_simp
              exact hK _ _ (Grew.refl _) rfl
            refine ⟨fun a_ wx hR hD K hK => ?_, ?_⟩
            · have hG : Grew wr wx := (Grew.drew _).trans hR
              simp [Deps, Dep, at_, Is] at hD
              obtain ⟨hd0, hd1⟩ := hD
              go_simp
              exact hK _ _ (Grew.refl _) rfl
            refine ⟨fun a_ wx hR hD K hK => ?_, ?_⟩
            · have hG : Grew wr wx := (Grew.drew _).trans hR
              simp [Deps, Dep, at_, Is] at hD
              go_simp
              exact hK _ _ (Grew.refl _) rfl
            refine ⟨fun a_ wx hR hD => ⟨fun hgd K hK => ?_, fun hgd => ?_⟩, ?_⟩
            · have hG : Grew wr wx := (Grew.drew _).trans hR
              exfalso
              simp [Deps, Dep, at_, Is] at hD
              first | (simp_all; done) | (simp_all [undef]; done)
            · exact rfl
            refine ⟨fun a_ wx hR hD => ⟨fun hgd K hK => ?_, fun hgd => ?_⟩, ?_⟩
            · have hG : Grew wr wx := (Grew.drew _).trans hR
              exfalso
              simp [Deps, Dep, at_, Is] at hD
              first | (simp_all; done) | (simp_all [undef]; done)
            · exact rfl
            refine ⟨fun a_ wx hR hD => ⟨fun hgd K hK => ?_, fun hgd => ?_⟩, ?_⟩
            · have hG : Grew wr wx := (Grew.drew _).trans hR
              exfalso
              simp [Deps, Dep, at_, Is] at hD
              first | (simp_all; done) | (simp_all [undef]; done)
            · exact rfl
            refine ⟨fun a_ wx hR hD => ⟨fun hgd K hK => ?_, fun hgd => ?_⟩, ?_⟩
            · have hG : Grew wr wx := (Grew.drew _).trans hR
              exfalso
              simp [Deps, Dep, at_, Is] at hD
              first | (simp_all; done) | (simp_all [undef]; done)
            · exact rfl
            refine ⟨fun a_ wx hR hD => ⟨fun hgd K hK => ?_, fun hgd => ?_⟩, ?_⟩
            · have hG : Grew wr wx := (Grew.drew _).trans hR
              exfalso
              simp [Deps, Dep, at_, Is] at hD
              first | (simp_all; done) | (simp_all [undef]; done)
            · exact rfl
            refine ⟨fun a_ wx hR hD => ⟨fun hgd K hK => ?_, fun hgd => ?_⟩, ?_⟩
            · have hG : Grew wr wx := (Grew.drew _).trans hR
              exfalso
              simp [Deps, Dep, at_, Is] at hD
              first | (simp_all; done) | (simp_all [undef]; done)
            · exact rfl
            refine ⟨fun a_ wx hR hD => ⟨fun hgd K hK => ?_, fun hgd => ?_⟩, ?_⟩
            · have hG : Grew wr wx := (Grew.drew _).trans hR
              exfalso
              simp [Deps, Dep, at_, Is] at hD
              first | (simp_all; done) | (simp_all [undef]; done)
            · exact rfl
            refine ⟨fun a_ wx hR hD => ⟨fun hgd K hK => ?_, fun hgd => ?_⟩, ?_⟩
            · have hG : Grew wr wx := (Grew.drew _).trans hR
              exfalso
              simp [Deps, Dep, at_, Is] at hD
              first | (simp_all; done) | (simp_all [undef]; done)
            · exact rfl
            refine ⟨fun a_ wx hR hD => ⟨fun hgd K hK => ?_, fun hgd => ?_⟩, ?_⟩
            · have hG : Grew wr wx := (Grew.drew _).trans hR
              exfalso
              simp [Deps, Dep, at_, Is] at hD
              first | (simp_all; done) | (simp_all [undef]; done)
            · exact rfl
            refine ⟨fun a_ wx hR hD => ⟨fun hgd K hK => ?_, fun hgd => ?_⟩, ?_⟩
            · have hG : Grew wr wx := (Grew.drew _).trans hR
              exfalso
              simp [Deps, Dep, at_, Is] at hD
              first | (simp_all; done) | (simp_all [undef]; done)
            · exact rfl
            refine ⟨fun a_ wx hR hD => ⟨fun hgd K hK => ?_, fun hgd => ?_⟩, ?_⟩
            · have hG : Grew wr wx := (Grew.drew _).trans hR
              exfalso
              simp [Deps, Dep, at_, Is] at hD
              first | (simp_all; done) | (simp_all [undef]; done)
            · exact rfl
            trivial
          · show EndHold _ _ _ _ _ _ _
            refine end_all (xs := [_, _, _, _, _, _, _, _, _, _, _, _, _, _, _, _, _, _, _, _, _]) ⟨rfl, rfl, rfl, rfl, rfl, rfl, rfl, rfl, rfl, rfl, rfl, rfl, rfl, rfl, rfl, rfl, rfl, rfl, rfl, rfl, rfl, trivial⟩ ?_
            rintro w5 hR1 -
            refine ⟨?_⟩
            have hG_w5 : Grew wr w5 := (Grew.drew _).trans hR1
            clear hR1
            simp only [Act.put, List.setIfInBounds_toArray, List.set_cons_succ, List.set_cons_zero, dropN, putEach]
            have wj := HWJ.out
            go_wp2_with fail
            go_roundw
            case rel => exact ⟨j + 1, by go_num, by omega, fun h => by have h1 := HJJ.out h; have h2 : j ≠ J := fun e => HNP.out h e; omega, Grew.trans HG2.out hG_w5⟩
            case measure => have wj := HWJ.out; simp [intOf, wj]; omega
        · have hl1 : ¬ x.toList = y.toList := fun h => hxy ((tl_iff _ _).1 h)
          have hl2 : (x.toList == y.toList) = false := by simp [hl1]
          have hl3 : (x.toList != y.toList) = true := by simp [hl1]
          have hl4 : decide (x.toList = y.toList) = false := decide_eq_false hl1
          obtain ⟨bb, hbb⟩ : ∃ bb, bb = (p0 == q0 && (p1.toList == q1.toList)) := ⟨_, rfl⟩
          have HEE := Lib.hid (fun (w' : World) => show (Op.equalIn 10000 64 (.agg #[.int .u32 p0, .string p1]) (.agg #[.int .u32 q0, .string q1])).run Try.prog w' = .ok bb w' from by
            have h := eqSgn 9998 w' p0 p1 q0 q1
            rw [← hbb] at h
            exact h)
          cases bb with
          | true =>
            clear hbb hxy
            go_wp2_with fail
            apply region_grew [Is _, Is _, Is _, Is _, Is _, Is _, Is _, Is _, Is _, Is _, Is _, Is _, Is _, Is _, Is _, Is (.agg #[.int .u32 p0, .string p1]), Is _, Is _, Is _, Is _, Is _] [([(1, none)], none), ([(5, none)], none), ([(18, some 0), (19, some 1)], none), ([(20, some 2)], none), ([(1, none)], none), ([(6, none)], none), ([(22, some 4), (23, some 5)], none), ([(24, some 6)], none), ([(21, some 3), (25, some 7)], none), ([(26, some 8)], none), ([(0, none), (27, some 9)], some (27, true)), ([(1, none), (27, some 9)], some (27, true)), ([(5, none), (27, some 9)], some (27, true)), ([(29, some 11), (30, some 12), (27, some 9)], some (27, true)), ([(31, some 13), (27, some 9)], some (27, true)), ([(28, some 10), (32, some 14), (27, some 9)], some (27, true)), ([(0, none), (27, some 9)], some (27, true)), ([(1, none), (27, some 9)], some (27, true)), ([(6, none), (27, some 9)], some (27, true)), ([(35, some 17), (36, some 18), (27, some 9)], some (27, true)), ([(37, some 19), (27, some 9)], some (27, true))] [(18, 0), (19, 1), (20, 2), (21, 3), (22, 4), (23, 5), (24, 6), (25, 7), (26, 8), (27, 9), (28, 10), (29, 11), (30, 12), (31, 13), (32, 14), (33, 15), (34, 16), (35, 17), (36, 18), (37, 19), (38, 20)] rfl (by kernel_rfl) (by kernel_rfl) (show Stable Grew _ from ⟨Is.stable _, Is.stable _, Is.stable _, Is.stable _, Is.stable _, Is.stable _, Is.stable _, Is.stable _, Is.stable _, Is.stable _, Is.stable _, Is.stable _, Is.stable _, Is.stable _, Is.stable _, Is.stable _, Is.stable _, Is.stable _, Is.stable _, Is.stable _, Is.stable _, trivial⟩)
            · show OpsHold _ _ _ _ _ _ _ _ _
              refine ⟨fun a_ wx hR hD K hK => ?_, ?_⟩
              · have hG : Grew wr wx := (Grew.drew _).trans hR
                simp [Deps, Dep, at_, Is] at hD
                go_simp
                exact hK _ _ (Grew.refl _) rfl
              refine ⟨fun a_ wx hR hD K hK => ?_, ?_⟩
              · have hG : Grew wr wx := (Grew.drew _).trans hR
                simp [Deps, Dep, at_, Is] at hD
                go_simp
                exact hK _ _ (Grew.refl _) rfl
              refine ⟨fun a_ wx hR hD K hK => ?_, ?_⟩
              · have hG : Grew wr wx := (Grew.drew _).trans hR
                simp [Deps, Dep, at_, Is] at hD
                obtain ⟨hd0, hd1⟩ := hD
                go_simp
                exact hK _ _ (Grew.refl _) rfl
              refine ⟨fun a_ wx hR hD K hK => ?_, ?_⟩
              · have hG : Grew wr wx := (Grew.drew _).trans hR
                simp [Deps, Dep, at_, Is] at hD
                have e1 := HC1.out wx hG
                go_simp
                exact hK _ _ (Grew.refl _) rfl
              refine ⟨fun a_ wx hR hD K hK => ?_, ?_⟩
              · have hG : Grew wr wx := (Grew.drew _).trans hR
                simp [Deps, Dep, at_, Is] at hD
                go_simp
                exact hK _ _ (Grew.refl _) rfl
              refine ⟨fun a_ wx hR hD K hK => ?_, ?_⟩
              · have hG : Grew wr wx := (Grew.drew _).trans hR
                simp [Deps, Dep, at_, Is] at hD
                go_simp
                exact hK _ _ (Grew.refl _) rfl
              refine ⟨fun a_ wx hR hD K hK => ?_, ?_⟩
              · have hG : Grew wr wx := (Grew.drew _).trans hR
                simp [Deps, Dep, at_, Is] at hD
                obtain ⟨hd0, hd1⟩ := hD
                go_simp
                exact hK _ _ (Grew.refl _) rfl
              refine ⟨fun a_ wx hR hD K hK => ?_, ?_⟩
              · have hG : Grew wr wx := (Grew.drew _).trans hR
                simp [Deps, Dep, at_, Is] at hD
                have e2 := HC2.out wx hG
                go_simp
                exact hK _ _ (Grew.refl _) rfl
              refine ⟨fun a_ wx hR hD K hK => ?_, ?_⟩
              · have hG : Grew wr wx := (Grew.drew _).trans hR
                simp [Deps, Dep, at_, Is] at hD
                obtain ⟨hd0, hd1⟩ := hD
                go_simp
                exact hK _ _ (Grew.refl _) rfl
              refine ⟨fun a_ wx hR hD K hK => ?_, ?_⟩
              · have hG : Grew wr wx := (Grew.drew _).trans hR
                simp [Deps, Dep, at_, Is] at hD
                go_simp
                exact hK _ _ (Grew.refl _) rfl
              refine ⟨fun a_ wx hR hD => ⟨fun hgd K hK => ?_, fun hgd => ?_⟩, ?_⟩
              · have hG : Grew wr wx := (Grew.drew _).trans hR
                clear hgd
                simp [Deps, Dep, at_, Is] at hD
                obtain ⟨hd0, hd1⟩ := hD
                go_simp
                exact hK _ _ (Grew.refl _) rfl
              · have hG : Grew wr wx := (Grew.drew _).trans hR
                exfalso
                simp [Deps, Dep, at_, Is] at hD
                first | (simp_all; done) | (simp_all [undef]; done)
              refine ⟨fun a_ wx hR hD => ⟨fun hgd K hK => ?_, fun hgd => ?_⟩, ?_⟩
              · have hG : Grew wr wx := (Grew.drew _).trans hR
                clear hgd
                simp [Deps, Dep, at_, Is] at hD
                obtain ⟨hd0, hd1⟩ := hD
                go_simp
                exact hK _ _ (Grew.refl _) rfl
              · have hG : Grew wr wx := (Grew.drew _).trans hR
                exfalso
                simp [Deps, Dep, at_, Is] at hD
                first | (simp_all; done) | (simp_all [undef]; done)
              refine ⟨fun a_ wx hR hD => ⟨fun hgd K hK => ?_, fun hgd => ?_⟩, ?_⟩
              · have hG : Grew wr wx := (Grew.drew _).trans hR
                clear hgd
                simp [Deps, Dep, at_, Is] at hD
                obtain ⟨hd0, hd1⟩ := hD
                go_simp
                exact hK _ _ (Grew.refl _) rfl
              · have hG : Grew wr wx := (Grew.drew _).trans hR
                exfalso
                simp [Deps, Dep, at_, Is] at hD
                first | (simp_all; done) | (simp_all [undef]; done)
              refine ⟨fun a_ wx hR hD => ⟨fun hgd K hK => ?_, fun hgd => ?_⟩, ?_⟩
              · have hG : Grew wr wx := (Grew.drew _).trans hR
                clear hgd
                simp [Deps, Dep, at_, Is] at hD
                obtain ⟨hd0, hd1, hd2⟩ := hD
                go_simp
                exact hK _ _ (Grew.refl _) rfl
              · have hG : Grew wr wx := (Grew.drew _).trans hR
                exfalso
                simp [Deps, Dep, at_, Is] at hD
                first | (simp_all; done) | (simp_all [undef]; done)
              refine ⟨fun a_ wx hR hD => ⟨fun hgd K hK => ?_, fun hgd => ?_⟩, ?_⟩
              · have hG : Grew wr wx := (Grew.drew _).trans hR
                clear hgd
                simp [Deps, Dep, at_, Is] at hD
                obtain ⟨hd0, hd1⟩ := hD
                have e1 := HC1.out wx hG
                go_simp
                exact hK _ _ (Grew.refl _) rfl
              · have hG : Grew wr wx := (Grew.drew _).trans hR
                exfalso
                simp [Deps, Dep, at_, Is] at hD
                first | (simp_all; done) | (simp_all [undef]; done)
              refine ⟨fun a_ wx hR hD => ⟨fun hgd K hK => ?_, fun hgd => ?_⟩, ?_⟩
              · have hG : Grew wr wx := (Grew.drew _).trans hR
                clear hgd
                simp [Deps, Dep, at_, Is] at hD
                obtain ⟨hd0, hd1, hd2⟩ := hD
                go_simp
                have hcn := HX.out wx
                with_reducible refine hcn.mono ?_
                clear hcn
                rintro e wy ⟨v, rfl, hv, hg⟩
                exact hK _ _ hg hv
              · have hG : Grew wr wx := (Grew.drew _).trans hR
                exfalso
                simp [Deps, Dep, at_, Is] at hD
                first | (simp_all; done) | (simp_all [undef]; done)
              refine ⟨fun a_ wx hR hD => ⟨fun hgd K hK => ?_, fun hgd => ?_⟩, ?_⟩
              · have hG : Grew wr wx := (Grew.drew _).trans hR
                clear hgd
                simp [Deps, Dep, at_, Is] at hD
                obtain ⟨hd0, hd1⟩ := hD
                go_simp
                exact hK _ _ (Grew.refl _) rfl
              · have hG : Grew wr wx := (Grew.drew _).trans hR
                exfalso
                simp [Deps, Dep, at_, Is] at hD
                first | (simp_all; done) | (simp_all [undef]; done)
              refine ⟨fun a_ wx hR hD => ⟨fun hgd K hK => ?_, fun hgd => ?_⟩, ?_⟩
              · have hG : Grew wr wx := (Grew.drew _).trans hR
                clear hgd
                simp [Deps, Dep, at_, Is] at hD
                obtain ⟨hd0, hd1⟩ := hD
                go_simp
                exact hK _ _ (Grew.refl _) rfl
              · have hG : Grew wr wx := (Grew.drew _).trans hR
                exfalso
                simp [Deps, Dep, at_, Is] at hD
                first | (simp_all; done) | (simp_all [undef]; done)
              refine ⟨fun a_ wx hR hD => ⟨fun hgd K hK => ?_, fun hgd => ?_⟩, ?_⟩
              · have hG : Grew wr wx := (Grew.drew _).trans hR
                clear hgd
                simp [Deps, Dep, at_, Is] at hD
                obtain ⟨hd0, hd1⟩ := hD
                go_simp
                exact hK _ _ (Grew.refl _) rfl
              · have hG : Grew wr wx := (Grew.drew _).trans hR
                exfalso
                simp [Deps, Dep, at_, Is] at hD
                first | (simp_all; done) | (simp_all [undef]; done)
              refine ⟨fun a_ wx hR hD => ⟨fun hgd K hK => ?_, fun hgd => ?_⟩, ?_⟩
              · have hG : Grew wr wx := (Grew.drew _).trans hR
                clear hgd
                simp [Deps, Dep, at_, Is] at hD
                obtain ⟨hd0, hd1, hd2⟩ := hD
                go_simp
                exact hK _ _ (Grew.refl _) rfl
              · have hG : Grew wr wx := (Grew.drew _).trans hR
                exfalso
                simp [Deps, Dep, at_, Is] at hD
                first | (simp_all; done) | (simp_all [undef]; done)
              refine ⟨fun a_ wx hR hD => ⟨fun hgd K hK => ?_, fun hgd => ?_⟩, ?_⟩
              · have hG : Grew wr wx := (Grew.drew _).trans hR
                clear hgd
                simp [Deps, Dep, at_, Is] at hD
                obtain ⟨hd0, hd1⟩ := hD
                have e2 := HC2.out wx hG
                go_simp
                exact hK _ _ (Grew.refl _) rfl
              · have hG : Grew wr wx := (Grew.drew _).trans hR
                exfalso
                simp [Deps, Dep, at_, Is] at hD
                first | (simp_all; done) | (simp_all [undef]; done)
              trivial
            · show EndHold _ _ _ _ _ _ _
              refine end_all (xs := [_, _, _, _, _, _, _, _, _, _, _, _, _, _, _, _, _, _, _, _, _]) ⟨rfl, rfl, rfl, rfl, rfl, rfl, rfl, rfl, rfl, rfl, rfl, rfl, rfl, rfl, rfl, rfl, rfl, rfl, rfl, rfl, rfl, trivial⟩ ?_
              rintro w5 hR1 -
              refine ⟨?_⟩
              have hG_w5 : Grew wr w5 := (Grew.drew _).trans hR1
              clear hR1
              simp only [Act.put, List.setIfInBounds_toArray, List.set_cons_succ, List.set_cons_zero, dropN, putEach]
              have HGw := Lib.hid hG_w5
              have e_ := HEE.out
              clear hG_w5
              go_wp2_with fail
              refine (HY.out w5).mono ?_
              rintro e w6 ⟨_, rfl, rfl, hg6⟩
              have HG6 := Lib.hid (Grew.trans HGw.out hg6)
              clear hg6
              go_wp2_with fail
              go_ret
              exact ⟨_, rfl, rfl, Grew.trans HG2.out HG6.out⟩
          | false =>
            have HNP := Lib.hid (show i = I → j = J → False from fun h1 h2 => by
              have h3 := (HPAIR.out h1 h2).2
              injection h3 with h3 h4
              subst h3 h4
              simp at hbb)
            clear hbb hxy
            go_wp2_with fail
            apply region_grew [Is _, Is _, Is _, Is _, Is _, Is _, Is _, Is _, Is _, Is _, Is _, Is _, Is _, Is _, Is _, Is (.agg #[.int .u32 p0, .string p1]), Is _, Is _, Is _, Is _, Is _] [([(1, none)], none), ([(5, none)], none), ([(18, some 0), (19, some 1)], none), ([(20, some 2)], none), ([(1, none)], none), ([(6, none)], none), ([(22, some 4), (23, some 5)], none), ([(24, some 6)], none), ([(21, some 3), (25, some 7)], none), ([(26, some 8)], none), ([(0, none), (27, some 9)], some (27, true)), ([(1, none), (27, some 9)], some (27, true)), ([(5, none), (27, some 9)], some (27, true)), ([(29, some 11), (30, some 12), (27, some 9)], some (27, true)), ([(31, some 13), (27, some 9)], some (27, true)), ([(28, some 10), (32, some 14), (27, some 9)], some (27, true)), ([(0, none), (27, some 9)], some (27, true)), ([(1, none), (27, some 9)], some (27, true)), ([(6, none), (27, some 9)], some (27, true)), ([(35, some 17), (36, some 18), (27, some 9)], some (27, true)), ([(37, some 19), (27, some 9)], some (27, true))] [(18, 0), (19, 1), (20, 2), (21, 3), (22, 4), (23, 5), (24, 6), (25, 7), (26, 8), (27, 9), (28, 10), (29, 11), (30, 12), (31, 13), (32, 14), (33, 15), (34, 16), (35, 17), (36, 18), (37, 19), (38, 20)] rfl (by kernel_rfl) (by kernel_rfl) (show Stable Grew _ from ⟨Is.stable _, Is.stable _, Is.stable _, Is.stable _, Is.stable _, Is.stable _, Is.stable _, Is.stable _, Is.stable _, Is.stable _, Is.stable _, Is.stable _, Is.stable _, Is.stable _, Is.stable _, Is.stable _, Is.stable _, Is.stable _, Is.stable _, Is.stable _, Is.stable _, trivial⟩)
            · show OpsHold _ _ _ _ _ _ _ _ _
              refine ⟨fun a_ wx hR hD K hK => ?_, ?_⟩
              · have hG : Grew wr wx := (Grew.drew _).trans hR
                simp [Deps, Dep, at_, Is] at hD
                go_simp
                exact hK _ _ (Grew.refl _) rfl
              refine ⟨fun a_ wx hR hD K hK => ?_, ?_⟩
              · have hG : Grew wr wx := (Grew.drew _).trans hR
                simp [Deps, Dep, at_, Is] at hD
                go_simp
                exact hK _ _ (Grew.refl _) rfl
              refine ⟨fun a_ wx hR hD K hK => ?_, ?_⟩
              · have hG : Grew wr wx := (Grew.drew _).trans hR
                simp [Deps, Dep, at_, Is] at hD
                obtain ⟨hd0, hd1⟩ := hD
                go_simp
                exact hK _ _ (Grew.refl _) rfl
              refine ⟨fun a_ wx hR hD K hK => ?_, ?_⟩
              · have hG : Grew wr wx := (Grew.drew _).trans hR
                simp [Deps, Dep, at_, Is] at hD
                have e1 := HC1.out wx hG
                go_simp
                exact hK _ _ (Grew.refl _) rfl
              refine ⟨fun a_ wx hR hD K hK => ?_, ?_⟩
              · have hG : Grew wr wx := (Grew.drew _).trans hR
                simp [Deps, Dep, at_, Is] at hD
                go_simp
                exact hK _ _ (Grew.refl _) rfl
              refine ⟨fun a_ wx hR hD K hK => ?_, ?_⟩
              · have hG : Grew wr wx := (Grew.drew _).trans hR
                simp [Deps, Dep, at_, Is] at hD
                go_simp
                exact hK _ _ (Grew.refl _) rfl
              refine ⟨fun a_ wx hR hD K hK => ?_, ?_⟩
              · have hG : Grew wr wx := (Grew.drew _).trans hR
                simp [Deps, Dep, at_, Is] at hD
                obtain ⟨hd0, hd1⟩ := hD
                go_simp
                exact hK _ _ (Grew.refl _) rfl
              refine ⟨fun a_ wx hR hD K hK => ?_, ?_⟩
              · have hG : Grew wr wx := (Grew.drew _).trans hR
                simp [Deps, Dep, at_, Is] at hD
                have e2 := HC2.out wx hG
                go_simp
                exact hK _ _ (Grew.refl _) rfl
              refine ⟨fun a_ wx hR hD K hK => ?_, ?_⟩
              · have hG : Grew wr wx := (Grew.drew _).trans hR
                simp [Deps, Dep, at_, Is] at hD
                obtain ⟨hd0, hd1⟩ := hD
                go_simp
                exact hK _ _ (Grew.refl _) rfl
              refine ⟨fun a_ wx hR hD K hK => ?_, ?_⟩
              · have hG : Grew wr wx := (Grew.drew _).trans hR
                simp [Deps, Dep, at_, Is] at hD
                go_simp
                exact hK _ _ (Grew.refl _) rfl
              refine ⟨fun a_ wx hR hD => ⟨fun hgd K hK => ?_, fun hgd => ?_⟩, ?_⟩
              · have hG : Grew wr wx := (Grew.drew _).trans hR
                clear hgd
                simp [Deps, Dep, at_, Is] at hD
                obtain ⟨hd0, hd1⟩ := hD
                go_simp
                exact hK _ _ (Grew.refl _) rfl
              · have hG : Grew wr wx := (Grew.drew _).trans hR
                exfalso
                simp [Deps, Dep, at_, Is] at hD
                first | (simp_all; done) | (simp_all [undef]; done)
              refine ⟨fun a_ wx hR hD => ⟨fun hgd K hK => ?_, fun hgd => ?_⟩, ?_⟩
              · have hG : Grew wr wx := (Grew.drew _).trans hR
                clear hgd
                simp [Deps, Dep, at_, Is] at hD
                obtain ⟨hd0, hd1⟩ := hD
                go_simp
                exact hK _ _ (Grew.refl _) rfl
              · have hG : Grew wr wx := (Grew.drew _).trans hR
                exfalso
                simp [Deps, Dep, at_, Is] at hD
                first | (simp_all; done) | (simp_all [undef]; done)
              refine ⟨fun a_ wx hR hD => ⟨fun hgd K hK => ?_, fun hgd => ?_⟩, ?_⟩
              · have hG : Grew wr wx := (Grew.drew _).trans hR
                clear hgd
                simp [Deps, Dep, at_, Is] at hD
                obtain ⟨hd0, hd1⟩ := hD
                go_simp
                exact hK _ _ (Grew.refl _) rfl
              · have hG : Grew wr wx := (Grew.drew _).trans hR
                exfalso
                simp [Deps, Dep, at_, Is] at hD
                first | (simp_all; done) | (simp_all [undef]; done)
              refine ⟨fun a_ wx hR hD => ⟨fun hgd K hK => ?_, fun hgd => ?_⟩, ?_⟩
              · have hG : Grew wr wx := (Grew.drew _).trans hR
                clear hgd
                simp [Deps, Dep, at_, Is] at hD
                obtain ⟨hd0, hd1, hd2⟩ := hD
                go_simp
                exact hK _ _ (Grew.refl _) rfl
              · have hG : Grew wr wx := (Grew.drew _).trans hR
                exfalso
                simp [Deps, Dep, at_, Is] at hD
                first | (simp_all; done) | (simp_all [undef]; done)
              refine ⟨fun a_ wx hR hD => ⟨fun hgd K hK => ?_, fun hgd => ?_⟩, ?_⟩
              · have hG : Grew wr wx := (Grew.drew _).trans hR
                clear hgd
                simp [Deps, Dep, at_, Is] at hD
                obtain ⟨hd0, hd1⟩ := hD
                have e1 := HC1.out wx hG
                go_simp
                exact hK _ _ (Grew.refl _) rfl
              · have hG : Grew wr wx := (Grew.drew _).trans hR
                exfalso
                simp [Deps, Dep, at_, Is] at hD
                first | (simp_all; done) | (simp_all [undef]; done)
              refine ⟨fun a_ wx hR hD => ⟨fun hgd K hK => ?_, fun hgd => ?_⟩, ?_⟩
              · have hG : Grew wr wx := (Grew.drew _).trans hR
                clear hgd
                simp [Deps, Dep, at_, Is] at hD
                obtain ⟨hd0, hd1, hd2⟩ := hD
                go_simp
                have hcn := HX.out wx
                with_reducible refine hcn.mono ?_
                clear hcn
                rintro e wy ⟨v, rfl, hv, hg⟩
                exact hK _ _ hg hv
              · have hG : Grew wr wx := (Grew.drew _).trans hR
                exfalso
                simp [Deps, Dep, at_, Is] at hD
                first | (simp_all; done) | (simp_all [undef]; done)
              refine ⟨fun a_ wx hR hD => ⟨fun hgd K hK => ?_, fun hgd => ?_⟩, ?_⟩
              · have hG : Grew wr wx := (Grew.drew _).trans hR
                clear hgd
                simp [Deps, Dep, at_, Is] at hD
                obtain ⟨hd0, hd1⟩ := hD
                go_simp
                exact hK _ _ (Grew.refl _) rfl
              · have hG : Grew wr wx := (Grew.drew _).trans hR
                exfalso
                simp [Deps, Dep, at_, Is] at hD
                first | (simp_all; done) | (simp_all [undef]; done)
              refine ⟨fun a_ wx hR hD => ⟨fun hgd K hK => ?_, fun hgd => ?_⟩, ?_⟩
              · have hG : Grew wr wx := (Grew.drew _).trans hR
                clear hgd
                simp [Deps, Dep, at_, Is] at hD
                obtain ⟨hd0, hd1⟩ := hD
                go_simp
                exact hK _ _ (Grew.refl _) rfl
              · have hG : Grew wr wx := (Grew.drew _).trans hR
                exfalso
                simp [Deps, Dep, at_, Is] at hD
                first | (simp_all; done) | (simp_all [undef]; done)
              refine ⟨fun a_ wx hR hD => ⟨fun hgd K hK => ?_, fun hgd => ?_⟩, ?_⟩
              · have hG : Grew wr wx := (Grew.drew _).trans hR
                clear hgd
                simp [Deps, Dep, at_, Is] at hD
                obtain ⟨hd0, hd1⟩ := hD
                go_simp
                exact hK _ _ (Grew.refl _) rfl
              · have hG : Grew wr wx := (Grew.drew _).trans hR
                exfalso
                simp [Deps, Dep, at_, Is] at hD
                first | (simp_all; done) | (simp_all [undef]; done)
              refine ⟨fun a_ wx hR hD => ⟨fun hgd K hK => ?_, fun hgd => ?_⟩, ?_⟩
              · have hG : Grew wr wx := (Grew.drew _).trans hR
                clear hgd
                simp [Deps, Dep, at_, Is] at hD
                obtain ⟨hd0, hd1, hd2⟩ := hD
                go_simp
                exact hK _ _ (Grew.refl _) rfl
              · have hG : Grew wr wx := (Grew.drew _).trans hR
                exfalso
                simp [Deps, Dep, at_, Is] at hD
                first | (simp_all; done) | (simp_all [undef]; done)
              refine ⟨fun a_ wx hR hD => ⟨fun hgd K hK => ?_, fun hgd => ?_⟩, ?_⟩
              · have hG : Grew wr wx := (Grew.drew _).trans hR
                clear hgd
                simp [Deps, Dep, at_, Is] at hD
                obtain ⟨hd0, hd1⟩ := hD
                have e2 := HC2.out wx hG
                go_simp
                exact hK _ _ (Grew.refl _) rfl
              · have hG : Grew wr wx := (Grew.drew _).trans hR
                exfalso
                simp [Deps, Dep, at_, Is] at hD
                first | (simp_all; done) | (simp_all [undef]; done)
              trivial
            · show EndHold _ _ _ _ _ _ _
              refine end_all (xs := [_, _, _, _, _, _, _, _, _, _, _, _, _, _, _, _, _, _, _, _, _]) ⟨rfl, rfl, rfl, rfl, rfl, rfl, rfl, rfl, rfl, rfl, rfl, rfl, rfl, rfl, rfl, rfl, rfl, rfl, rfl, rfl, rfl, trivial⟩ ?_
              rintro w5 hR1 -
              refine ⟨?_⟩
              have hG_w5 : Grew wr w5 := (Grew.drew _).trans hR1
              clear hR1
              simp only [Act.put, List.setIfInBounds_toArray, List.set_cons_succ, List.set_cons_zero, dropN, putEach]
              have HGw := Lib.hid hG_w5
              have e_ := HEE.out
              clear hG_w5
              go_wp2_with fail
              refine (HY.out w5).mono ?_
              rintro e w6 ⟨_, rfl, rfl, hg6⟩
              have HG6 := Lib.hid (Grew.trans HGw.out hg6)
              clear hg6
              have wj := HWJ.out
              go_wp2_with fail
              go_roundw
              case rel => exact ⟨j + 1, by go_num, by omega, fun h => by have h1 := HJJ.out h; have h2 : j ≠ J := fun e => HNP.out h e; omega, Grew.trans HG2.out HG6.out⟩
              case measure => have wj := HWJ.out; simp [intOf, wj]; omega
      · obtain rfl : i = j := by omega
        have d1 : decide ((i : Int) < (i : Int)) = false := decide_eq_false (by omega)
        have d2 : decide (i < i) = false := decide_eq_false (by omega)
        have hnI : i ≠ I := fun h => by have h1 := hjJ h; have h2 := HIJ.out; omega
        have HNI := Lib.hid hnI
        have wi := HWI.out
        clear hjJ hnI
        go_wp2_with fail
        go_roundw
        case rel => exact ⟨i + 1, by go_num, by have h1 := HNI.out; have h2 := HII.out; omega, hgr⟩
        case measure => have wi := HWI.out; simp [intOf, wi]; omega
end Go.Proofs.Ytimcafohmahapaa.F
