/- Texts of this seat laid together: RegQ, AudT, AudY. -/
import Derived.Test.YtmifoihfpjomaaaSA
import Derived.Test.YtmifoihfpjomaaaSD

-- RegQ
namespace Go.Proofs.YtmifoihfpjomaaaR
open Go Go.RowKit
set_option linter.unusedSimpArgs false
set_option linter.unusedVariables false
section
variable (P : Program) (Q : Exit → Act → World → Prop) (R : World → World → Prop) (Rp : Act → World → World → Prop) (V : Nat → World → Value → Prop) (a0 : Act) (w0 : World) (E : Act → World → Prop)
def PhGoalQ (o : Oper) (g : GuardT) (i : Nat) (r : Reads) : Phase → Prop
  | .plain => ∀ a w, R w0 w → Deps V a0 a w r → OpGoal P Q R V o g i a w
  | .float => ∀ a w, Deps V a0 a w r → OpGoal P Q (fun w w' => w' = w) V o g i a w
  | .big => o.guard = none ∧ ∀ a w, R w0 w → Deps V a0 a w r → ∀ K : Act → World → Prop, (∀ v w', Rp (a.put o.dst v) w w' → V i w' v → K (a.put o.dst v) w') → o.wp P a w K Q
def PhHoldQ : Nat → List Oper → List (Reads × GuardT) → List Phase → Prop
  | i, o :: os, (r, g) :: rs, k :: ks => PhGoalQ P Q R Rp V a0 w0 o g i r k ∧ PhHoldQ (i + 1) os rs ks
  | _, _, _, _ => True
end

section
variable {P : Program} {ops : Array Oper} {Q : Exit → Act → World → Prop} {R : World → World → Prop} {Rp : Act → World → World → Prop} {V : Nat → World → Value → Prop} {a0 : Act} {w0 : World} {E : Act → World → Prop}
theorem phHold_atQ : ∀ (os : List Oper) (rs : List (Reads × GuardT)) (ks : List Phase) (k i : Nat) (o : Oper) (r : Reads) (g : GuardT) (p : Phase), PhHoldQ P Q R Rp V a0 w0 k os rs ks → os[i]? = some o → rs[i]? = some (r, g) → ks[i]? = some p →
    PhGoalQ P Q R Rp V a0 w0 o g (k + i) r p
  | [], _, _, _, i, o, r, g, p, _, ho, _, _ => by simp at ho
  | o' :: os, [], _, _, i, o, r, g, p, _, _, hr, _ => by simp at hr
  | o' :: os, (r', g') :: rs, [], _, i, o, r, g, p, _, _, _, hk => by simp at hk
  | o' :: os, (r', g') :: rs, p' :: ks, k, 0, o, r, g, p, h, ho, hr, hk => by
    simp at ho hr hk
    obtain ⟨rfl, rfl⟩ := hr
    subst ho
    subst hk
    exact h.1
  | o' :: os, (r', g') :: rs, p' :: ks, k, i + 1, o, r, g, p, h, ho, hr, hk => by
    have := phHold_atQ os rs ks (k + 1) i o r g p h.2 (by simpa using ho) (by simpa using hr) (by simpa using hk)
    rw [show k + 1 + i = k + (i + 1) from by omega] at this
    exact this
/-- what is known between two operations -/
structure InvQ (ops : Array Oper) (m : Nat) (R : World → World → Prop) (Rp : Act → World → World → Prop) (V : Nat → World → Value → Prop) (ks : List Phase) (a0 : Act) (w0 : World) (listed : Array Bool) (a : Act) (w : World) : Prop where
  early : ¬ BigIn ks listed → R w0 w
  late : BigIn ks listed → ∃ w1, R w0 w1 ∧ Rp a w1 w
  size : a.tmps.size = a0.tmps.size
  defers : a.defers = a0.defers
  lsize : listed.size = ops.size
  closed : Closed ops listed
  tail : ∀ j, m ≤ j → listed.getD j false = false
  tmps : ∀ t, match lastW ops (fun j => listed.getD j false) t with
    | some j => V j w (a.tmps[t]?.getD undef)
    | none => a.tmps[t]?.getD undef = a0.tmps[t]?.getD undef
theorem wpAny_invQ {A : List Nat} {reads : List (Reads × GuardT)} {ks : List Phase} (hA : edgesOk ops A = true) (hP : pairsOk ops A = true) (hR : readsOk ops reads a0.tmps.size = true) (hT : tailOk ops A reads.length = true)
    (hrf : ∀ w, R w w) (htr : ∀ a b c, R a b → R b c → R a c) (hK : phaseOk A ks reads.length = true)
    (hst : ∀ i, ks[i]? ≠ some .big → ∀ w w' v, R w w' ∨ (∃ a, Rp a w w') → V i w v → V i w' v)
    (hfl : ∀ (i : Nat) (o : Oper), ks[i]? = some .float → ops[i]? = some o → ∀ a w1 w v, Rp a w1 w → Rp (a.put o.dst v) w1 w)
    (hops : PhHoldQ P Q R Rp V a0 w0 0 ops.toList reads ks)
    (hend : ∀ listed a w, (∀ j, listed.getD j false = decide (j < reads.length)) → InvQ ops reads.length R Rp V ks a0 w0 listed a w → wpList P ops Q (ops.toList.drop reads.length) a w) :
    ∀ (fuel : Nat) (listed : Array Bool) (a : Act) (w : World), listed.toList.count false ≤ fuel → InvQ ops reads.length R Rp V ks a0 w0 listed a w → wpAny P .any ops Q fuel listed a w := by
  have hT0 := hT
  simp only [tailOk, Bool.and_eq_true, decide_eq_true_eq, List.all_eq_true, Bool.or_eq_true, List.mem_range] at hT0
  -- when all of the head has come up
  have fin : ∀ (fuel : Nat) (listed : Array Bool) (a : Act) (w : World), listed.toList.count false ≤ fuel → InvQ ops reads.length R Rp V ks a0 w0 listed a w → (∀ j, j < reads.length → listed.getD j false = true) → wpAny P .any ops Q fuel listed a w := by
    intro fuel listed a w hf hi hall
    have hl : ∀ j, listed.getD j false = decide (j < reads.length) := by
      intro j
      rcases Nat.lt_or_ge j reads.length with h | h
      · rw [hall j h]; simp [h]
      · rw [hi.tail j h]; simp; omega
    refine wpAny_tail hA hT fuel reads.length listed a w (Nat.le_refl _) ?_ hT0.1 hi.lsize hl (hend listed a w hl hi)
    -- those that are not listed are as many as the tail is long
    have : (listed.toList.drop reads.length).count false = listed.size - reads.length := by
      have h1 : listed.toList.drop reads.length = List.replicate (listed.size - reads.length) false := by
        refine List.ext_getElem (by simp) fun j h1 h2 => ?_
        simp only [List.getElem_drop, List.getElem_replicate]
        have h3 : reads.length + j < listed.size := by simp at h1; omega
        have h4 := hi.tail (reads.length + j) (by omega)
        simpa [h3] using h4
      rw [h1, List.count_replicate_self]
    have h2 : (listed.toList.drop reads.length).count false ≤ listed.toList.count false := List.Sublist.count_le _ (List.drop_sublist _ _)
    have := hi.lsize
    omega
  -- before that, nothing of the tail may come up
  have low : ∀ (listed : Array Bool), listed.size = ops.size → Closed ops listed → ∀ i, i ∈ Region.ready .any ops listed → reads.length ≤ i → ∀ j, j < reads.length → listed.getD j false = true := by
    intro listed hs hc i hi hm j hj
    obtain ⟨hun, o, ho, hd⟩ := mem_ready.1 hi
    have hisz := (Array.getElem?_eq_some_iff.1 ho).1
    exact closed_anc hA hc i o ho hd j ((hT0.2 i hisz).resolve_left (by omega) j (by omega))
  intro fuel
  induction fuel with
  | zero =>
    intro listed a w hf hi
    refine fin 0 listed a w hf hi fun j hj => ?_
    have hjs : j < listed.size := by have := hi.lsize; omega
    cases hl : listed.getD j false with
    | true => rfl
    | false =>
      exfalso
      have hv : listed[j] = false := by simpa [hjs] using hl
      have : 0 < listed.toList.count false := List.count_pos_iff.2 (by rw [← hv]; simp)
      omega
  | succ fuel ih =>
    intro listed a w hf hi
    by_cases hall : ∀ j, j < reads.length → listed.getD j false = true
    · exact fin (fuel + 1) listed a w hf hi hall
    refine ⟨fun h => absurd (fun j hj => all_of_ready rfl hA hi.lsize h j (by omega)) hall, fun i hir => ?_⟩
    have him : i < reads.length := by
      rcases Nat.lt_or_ge i reads.length with h | h
      · exact h
      · exact absurd (low listed hi.lsize hi.closed i hir h) hall
    obtain ⟨hun, o, ho, hdeps⟩ := mem_ready.1 hir
    have hisz : i < ops.size := (Array.getElem?_eq_some_iff.1 ho).1
    have hun' : listed.getD i false = false := by rw [getD_irrel (by rw [hi.lsize]; exact hisz) false true]; exact hun
    simp only [readsOk, List.all_eq_true] at hR
    have hRi := hR i (List.mem_range.2 him)
    have hri : reads[i]? = some (reads[i]'(by omega)) := List.getElem?_eq_getElem (by omega)
    generalize hrg : reads[i]'(by omega) = rg at hri
    obtain ⟨r, g⟩ := rg
    rw [ho, hri] at hRi
    simp only [Bool.and_eq_true, List.all_eq_true] at hRi
    obtain ⟨⟨hr, hdst⟩, hg⟩ := hRi
    -- ancestors of i are listed; descendants are not
    have hanc : ∀ k, (A.getD i 0).testBit k = true → listed.getD k false = true := closed_anc hA hi.closed i o ho hdeps
    have hdesc : ∀ j oj, ops[j]? = some oj → (A.getD j 0).testBit i = true → listed.getD j false = false := by
      intro j oj hoj hb
      cases hl : listed.getD j false with
      | false => rfl
      | true =>
        have := closed_anc hA hi.closed j oj hoj (hi.closed j oj hoj hl) i hb
        rw [this] at hun'; cases hun'
    have pair : ∀ i' j' oi' oj', i' < j' → ops[i']? = some oi' → ops[j']? = some oj' → (A.getD j' 0).testBit i' = true ∨ ((∀ t, oi'.dst = some t → t ∉ names ops oj') ∧ ∀ t, oj'.dst = some t → t ∉ oi'.looksAt ops) := by
      intro i' j' oi' oj' hlt hoi hoj
      have h1 := List.all_eq_true.1 hP j' (List.mem_range.2 (Array.getElem?_eq_some_iff.1 hoj).1)
      simp only [hoj, List.all_eq_true, List.mem_range] at h1
      have h2 := h1 i' hlt
      simp only [hoi, Bool.or_eq_true, Bool.and_eq_true] at h2
      rcases h2 with h2 | ⟨h2, h3⟩
      · exact .inl h2
      · refine .inr ⟨fun t ht => ?_, fun t ht => ?_⟩
        · simp [ht] at h2; exact h2
        · simp [ht] at h3; exact h3
    -- the writers that are listed of what i looks at are those ahead of it
    have hlook : ∀ t ∈ o.looksAt ops, lastW ops (fun j => listed.getD j false) t = lastW ops (fun j => decide (j < i)) t := by
      intro t ht
      refine lastW_congr fun j oj hoj hd => ?_
      rcases Nat.lt_trichotomy j i with hlt | rfl | hgt
      · have := (pair j i oj o hlt hoj ho).resolve_right (fun h => h.1 t hd (List.mem_append_right _ ht))
        simp [hlt, hanc j this]
      · simp [hun']
      · have := (pair i j o oj hgt ho hoj).resolve_right (fun h => h.2 t hd ht)
        rw [hdesc j oj hoj this]
        symm; simp; omega
    have hD : Deps V a0 a w r := by
      refine deps_of a w r fun ⟨t, j⟩ hx => ?_
      have h1 := hr (t, j) hx
      simp only [beq_iff_eq, List.contains_iff_mem] at h1
      have h2 := hi.tmps t
      rw [hlook t h1.1, h1.2] at h2
      cases j <;> exact h2
    simp only [phaseOk, Bool.and_eq_true, beq_iff_eq, List.all_eq_true, List.mem_range] at hK
    have hki : ks[i]? = some (ks[i]'(by omega)) := List.getElem?_eq_getElem (by omega)
    generalize hkk : ks[i]'(by omega) = kd at hki
    have hgoal := phHold_atQ ops.toList reads ks 0 i o r g kd hops (by simpa using ho) hri hki
    rw [Nat.zero_add] at hgoal
    have big_all : ∀ p, ks[p]? = some .big → ∀ j, j < reads.length → j ≠ p → ks[j]? = some .float ∨ (A.getD p 0).testBit j = true := by
      intro p hp j hj hne
      have hpl : p < reads.length := by
        have := (List.getElem?_eq_some_iff.1 hp).1
        omega
      have := hK.2 p hpl
      rw [hp] at this
      simp only [List.all_eq_true, List.mem_range, Bool.or_eq_true, beq_iff_eq] at this
      rcases this j hj with (h | h) | h
      · exact absurd h hne
      · exact .inl h
      · exact .inr h
    have noBig : kd ≠ .float → ¬ BigIn ks listed := by
      rintro hne ⟨p, hp, hl⟩
      by_cases hip : i = p
      · subst hip; rw [hun'] at hl; cases hl
      · rcases big_all p hp i him hip with h | h
        · rw [hki] at h; exact hne (Option.some.inj h)
        · have hpo : p < ops.size := by
            rcases Nat.lt_or_ge p ops.size with h' | h'
            · exact h'
            · rw [show listed.getD p false = false from by simp [Array.getElem?_eq_none (show listed.size ≤ p by rw [hi.lsize]; exact h')]] at hl; cases hl
          have := closed_anc hA hi.closed p _ (Array.getElem?_eq_getElem hpo) (hi.closed p _ (Array.getElem?_eq_getElem hpo) hl) i h
          rw [this] at hun'; cases hun'
    have bigSet : ∀ {k : Phase}, kd = k → k ≠ .big → (BigIn ks (listed.setIfInBounds i true) ↔ BigIn ks listed) := by
      intro k hk hne
      constructor
      · rintro ⟨p, hp, hl⟩
        by_cases hip : i = p
        · subst hip; rw [hki] at hp; exact absurd (hk.symm.trans (Option.some.inj hp)) hne
        · rw [getD_set_other _ hip] at hl; exact ⟨p, hp, hl⟩
      · rintro ⟨p, hp, hl⟩
        by_cases hip : i = p
        · subst hip; rw [hun'] at hl; cases hl
        · exact ⟨p, hp, by rw [getD_set_other _ hip]; exact hl⟩
    have notBig : ∀ j, listed.getD j false = true → ¬ BigIn ks listed → ks[j]? ≠ some .big := fun j hl hb h => hb ⟨j, h, hl⟩
    -- behind operation i
    have next : ∀ v w', (∀ j, j ≠ i → listed.getD j false = true → ∀ u, V j w u → V j w' u) → (¬ BigIn ks (listed.setIfInBounds i true) → R w0 w') → (BigIn ks (listed.setIfInBounds i true) → ∃ w1, R w0 w1 ∧ Rp (a.put o.dst v) w1 w') → V i w' v → wpAny P .any ops Q fuel (listed.setIfInBounds i true) (a.put o.dst v) w' := by
      intro v w' hww he hl hv
      refine ih _ _ _ (unlisted_set hun fuel hf) ⟨he, hl, ?_, ?_, by simp [hi.lsize], ?_, fun j hj => ?_, ?_⟩
      · cases hd : o.dst <;> simp [Act.put, hi.size]
      · cases hd : o.dst <;> simp [Act.put, hi.defers]
      · intro j oj hoj hl e he hb
        by_cases hji : i = j
        · subst hji
          rw [ho] at hoj
          obtain rfl := Option.some.inj hoj
          by_cases hei : i = e.on
          · rw [← hei]; exact getD_set_self (by rw [hi.lsize]; exact hisz) _
          · rw [getD_set_other _ hei]; exact hdeps e he hb
        · rw [getD_set_other _ hji] at hl
          by_cases hei : i = e.on
          · rw [← hei]; exact getD_set_self (by rw [hi.lsize]; exact hisz) _
          · rw [getD_set_other _ hei]; exact hi.closed j oj hoj hl e he hb
      · rw [getD_set_other _ (by omega)]; exact hi.tail j hj
      · intro t
        by_cases hd : o.dst = some t
        · rw [lastW_set ho hd (p := fun j => (listed.setIfInBounds i true).getD j false) (getD_set_self (by rw [hi.lsize]; exact hisz) _) (fun j oj hoj hdj hlt => by
            have := (pair i j o oj hlt ho hoj).resolve_right (fun h => h.1 t hd (by simp [names, hdj]))
            rw [getD_set_other _ (by omega)]
            exact hdesc j oj hoj this)]
          have htn : t < a.tmps.size := by rw [hi.size]; simpa [hd] using hdst
          simp only [hd, Act.put]
          simpa [htn] using hv
        · rw [lastW_congr (q := fun j => listed.getD j false) (fun j oj hoj hdj => by
            by_cases hji : i = j
            · subst hji; rw [ho] at hoj; obtain rfl := Option.some.inj hoj; exact absurd hdj hd
            · exact getD_set_other _ hji)]
          have h2 := hi.tmps t
          have same : (a.put o.dst v).tmps[t]?.getD undef = a.tmps[t]?.getD undef := by
            cases hdd : o.dst with
            | none => rfl
            | some d =>
              have hne : d ≠ t := fun e => hd (by rw [hdd, e])
              simp [Act.put, Array.getElem?_setIfInBounds_ne hne]
          rw [same]
          revert h2
          cases hlw : lastW ops (fun j => listed.getD j false) t with
          | none => exact id
          | some j =>
            have hlj := lastW_listed hlw
            refine hww j ?_ hlj _
            intro e
            subst e
            rw [hun'] at hlj
            cases hlj
    unfold wpOp
    simp only [ho]
    cases kd with
    | big =>
      obtain ⟨hgn, hgoal⟩ := hgoal
      have hnb := noBig (by simp)
      rw [if_pos (by simp [Region.wanted, hgn])]
      refine .inl (hgoal a w (hi.early hnb) hD _ fun v w' hrp hv => ?_)
      have hbig : BigIn ks (listed.setIfInBounds i true) := ⟨i, hki, getD_set_self (by rw [hi.lsize]; exact hisz) _⟩
      exact next v w' (fun j _ hl u hu => hst j (notBig j hl hnb) w w' u (.inr ⟨_, hrp⟩) hu) (fun h => absurd hbig h) (fun _ => ⟨w, hi.early hnb, hrp⟩) hv
    | plain =>
      have hnb := noBig (by simp)
      have hgoal := hgoal a w (hi.early hnb) hD
      have hs := bigSet rfl (by simp)
      have nx : ∀ v w', R w w' → V i w' v → wpAny P .any ops Q fuel (listed.setIfInBounds i true) (a.put o.dst v) w' := fun v w' hr hv =>
        next v w' (fun j _ hl u hu => hst j (notBig j hl hnb) w w' u (.inl hr) hu) (fun _ => htr _ _ _ (hi.early hnb) hr) (fun h => absurd (hs.1 h) hnb) hv
      cases hgg : o.guard with
      | none =>
        rw [hgg] at hg
        cases g with
        | some _ => simp at hg
        | none =>
          rw [if_pos (by simp [Region.wanted, hgg])]
          exact .inl (hgoal _ nx)
      | some kw =>
        obtain ⟨k, want⟩ := kw
        rw [hgg] at hg
        cases g with
        | none => simp at hg
        | some tw =>
          obtain ⟨t, want'⟩ := tw
          simp only [Bool.and_eq_true, beq_iff_eq] at hg
          obtain ⟨rfl, hk⟩ := hg
          have hw := wanted_iff (a := a) hgg hk
          by_cases hv : a.tmps[t]?.getD undef = .bool want
          · rw [if_pos (hw.2 hv)]
            exact .inl (hgoal.1 hv _ nx)
          · rw [if_neg (fun h => hv (hw.1 h))]
            exact nx undef w (hrf w) (hgoal.2 hv)
    | float =>
      have hgoal := hgoal a w hD
      have hs := bigSet rfl (by simp)
      have nx : ∀ v w', w' = w → V i w' v → wpAny P .any ops Q fuel (listed.setIfInBounds i true) (a.put o.dst v) w' := fun v w' hr hv => by
        subst hr
        exact next v w' (fun j _ _ u hu => hu) (fun h => hi.early (fun hb => h (hs.2 hb))) (fun h => (hi.late (hs.1 h)).imp fun w1 h1 => ⟨h1.1, hfl i o hki ho a w1 _ v h1.2⟩) hv
      cases hgg : o.guard with
      | none =>
        rw [hgg] at hg
        cases g with
        | some _ => simp at hg
        | none =>
          rw [if_pos (by simp [Region.wanted, hgg])]
          exact .inl (hgoal _ nx)
      | some kw =>
        obtain ⟨k, want⟩ := kw
        rw [hgg] at hg
        cases g with
        | none => simp at hg
        | some tw =>
          obtain ⟨t, want'⟩ := tw
          simp only [Bool.and_eq_true, beq_iff_eq] at hg
          obtain ⟨rfl, hk⟩ := hg
          have hw := wanted_iff (a := a) hgg hk
          by_cases hv : a.tmps[t]?.getD undef = .bool want
          · rw [if_pos (hw.2 hv)]
            exact .inl (hgoal.1 hv _ nx)
          · rw [if_neg (fun h => hv (hw.1 h))]
            exact nx undef w rfl (hgoal.2 hv)
end

section
variable {P : Program} {Q : Exit → Act → World → Prop} {V : Nat → World → Value → Prop} {a0 : Act} {w0 : World} {E : Act → World → Prop}
theorem wp_region_bigQ {id : Nat} {n : Nat} (ks : List Phase) (V : Nat → World → Value → Prop) (R : World → World → Prop) (Rp : Act → World → World → Prop) (reads : List (Reads × GuardT)) (fin : List (Tmp × Nat)) {l : List Oper} (tail : List Oper) (hn : a0.tmps.size = n) (hk : regionOk l.toArray reads fin n = true) (hd : l.drop reads.length = tail) (hm : P.follows .mixedOrders = true)
    (hrf : ∀ w, R w w) (htr : ∀ a b c, R a b → R b c → R a c) (hK : phaseOk (mkAnc l) ks reads.length = true) (hb : ks.contains .big = true)
    (hst : ∀ i, ks[i]? ≠ some .big → ∀ w w' v, R w w' ∨ (∃ a, Rp a w w') → V i w v → V i w' v)
    (hfl : ∀ (i : Nat) (o : Oper), ks[i]? = some .float → l[i]? = some o → ∀ a w1 w v, Rp a w1 w → Rp (a.put o.dst v) w1 w)
    (hops : PhHoldQ P Q R Rp V a0 w0.drew 0 l reads ks)
    (hend : EndHold (fun _ _ => True) V w0.drew (fun a w => (∃ w1, R w0.drew w1 ∧ Rp a w1 w) → wpList P l.toArray Q tail a w) (fun _ => True) fin a0) :
    (Code.region id l.toArray true).wp P Q a0 w0 := by
  subst hn
  subst hd
  simp only [regionOk, Bool.and_eq_true] at hk
  obtain ⟨⟨⟨⟨hA, hP⟩, hR⟩, hF⟩, hT⟩ := hk
  refine wp_region_any hm ?_
  refine wpAny_invQ (Rp := Rp) (ks := ks) (w0 := w0.drew) hA hP hR hT hrf htr hK hst (fun i o hk ho => hfl i o hk (by simpa using ho)) hops ?_ _ _ _ _ (Nat.le_trans List.count_le_length (by simp)) ⟨fun _ => hrf _, ?_, rfl, rfl, by simp, ?_, ?_, ?_⟩
  · intro listed a w hl hi
    simp only [finalOk, Bool.and_eq_true, List.all_eq_true, beq_iff_eq] at hF
    have hF2 : ∀ (j : Nat) (o : Oper) (t : Tmp), l.toArray[j]? = some o → j < reads.length → o.dst = some t → t ∈ fin.map (·.1) := by
      intro j o t ho hj hd
      have := hF.2 o (by
        have h1 : (l.take reads.length)[j]? = some o := by rw [List.getElem?_take_of_lt hj]; simpa using ho
        exact List.mem_of_getElem? h1)
      rw [hd] at this
      simpa using this
    have hlast : ∀ t, lastW l.toArray (fun j => listed.getD j false) t = lastW l.toArray (fun j => decide (j < reads.length)) t := fun t =>
      lastW_congr fun j o ho _ => hl j
    have e : fin.foldl (fun a' x => a'.put (some x.1) ((fun t => a.tmps[t]?.getD undef) x.1)) a0 = a := by
      have h := foldl_put (fun t => a.tmps[t]?.getD undef) fin a0
      have hd : (fin.foldl (fun a' x => a'.put (some x.1) ((fun t => a.tmps[t]?.getD undef) x.1)) a0).defers = a.defers := h.2.1.trans hi.defers.symm
      have ht : (fin.foldl (fun a' x => a'.put (some x.1) ((fun t => a.tmps[t]?.getD undef) x.1)) a0).tmps = a.tmps := by
        refine Array.ext_getElem? fun t => ?_
        rcases Nat.lt_or_ge t a0.tmps.size with hlt | hge
        · rw [h.2.2 t hlt]
          have hat : a.tmps[t]? = some (a.tmps[t]?.getD undef) := by
            have : t < a.tmps.size := by rw [hi.size]; exact hlt
            simp [this]
          by_cases hm : t ∈ fin.map (·.1)
          · rw [if_pos hm]; exact hat.symm
          · rw [if_neg hm]
            have h2 := hi.tmps t
            have hnone : lastW l.toArray (fun j => listed.getD j false) t = none := by
              unfold lastW
              rw [List.find?_eq_none]
              intro j _
              cases ho : l.toArray[j]? with
              | none => simp
              | some o =>
                by_cases hdo : o.dst = some t
                · rcases Nat.lt_or_ge j reads.length with hj | hj
                  · exact absurd (hF2 j o t ho hj hdo) hm
                  · simp only [hi.tail j hj]; simp
                · simp [hdo]
            rw [hnone] at h2
            rw [hat, h2]
            simp [hlt]
        · rw [Array.getElem?_eq_none (by rw [h.1]; exact hge), Array.getElem?_eq_none (by rw [hi.size]; exact hge)]
      generalize fin.foldl (fun a' x => a'.put (some x.1) ((fun t => a.tmps[t]?.getD undef) x.1)) a0 = z at hd ht
      cases z; cases a; simp_all
    have hbin : BigIn ks listed := by
      have hmem := List.contains_iff_mem.1 hb
      obtain ⟨p, hp⟩ := List.mem_iff_getElem?.1 hmem
      refine ⟨p, hp, ?_⟩
      rw [hl p]
      have h1 := (List.getElem?_eq_some_iff.1 hp).1
      have h2 := hK
      simp only [phaseOk, Bool.and_eq_true, beq_iff_eq] at h2
      simp; omega
    have := endHold_at (fun t => a.tmps[t]?.getD undef) w trivial fin _ a0 hend trivial (fun x hx => by
      have h1 := hF.1 x hx
      have h2 := hi.tmps x.1
      rw [hlast, h1] at h2
      exact h2)
    rw [e] at this
    exact this (hi.late hbin)
  · rintro ⟨p, _, hp⟩
    exfalso
    rcases Nat.lt_or_ge p l.length with h | h
    · simp [h] at hp
    · simp [h] at hp
  · intro j o ho hl
    exfalso
    have hj : j < l.length := by simpa using (Array.getElem?_eq_some_iff.1 ho).1
    simp [hj] at hl
  · intro j _
    rcases Nat.lt_or_ge j l.length with h | h
    · simp [h]
    · simp [h]
  · intro t
    have : lastW l.toArray (fun j => (Array.replicate l.toArray.size false).getD j false) t = none := by
      unfold lastW
      rw [List.find?_eq_none]
      intro j hj
      have hj : j < l.length := by simpa using hj
      simp [hj]
    rw [this]

end
/-- no floating one writes it -/
def noFloat (t : Tmp) (l : List Oper) (ks : List Phase) : Bool := (List.range l.length).all fun i => match ks[i]?, l[i]? with
  | some .float, some o => o.dst != some t
  | _, _ => true
theorem noFloat_put {t : Tmp} {l : List Oper} {ks : List Phase} (h : noFloat t l ks = true) (S : Value → World → World → Prop) (i : Nat) (o : Oper) (hk : ks[i]? = some .float) (ho : l[i]? = some o) (a : Act) (w1 w : World) (v : Value) (hs : S (a.tmps[t]?.getD undef) w1 w) : S ((a.put o.dst v).tmps[t]?.getD undef) w1 w := by
  have h1 := List.all_eq_true.1 h i (List.mem_range.2 (List.getElem?_eq_some_iff.1 ho).1)
  rw [hk, ho] at h1
  simp only [bne_iff_ne, ne_eq] at h1
  have : (a.put o.dst v).tmps[t]?.getD undef = a.tmps[t]?.getD undef := by
    cases hd : o.dst with
    | none => rfl
    | some d =>
      have hne : d ≠ t := fun e => h1 (by rw [hd, e])
      simp [Act.put, Array.getElem?_setIfInBounds_ne hne]
  rw [this]
  exact hs
theorem region_bigQ {P : Program} {Q : Exit → Act → World → Prop} {a0 : Act} {w0 : World} {id : Nat} {n : Nat} {l : List Oper} (t : Tmp) (S : Value → World → World → Prop) (ks : List Phase) (Vs : List (World → Value → Prop)) (reads : List (Reads × GuardT)) (fin : List (Tmp × Nat))
    (hn : a0.tmps.size = n) (hk : regionOk l.toArray reads fin n = true) (hK : phaseOk (mkAnc l) ks reads.length = true) (hb : ks.contains .big = true) (hm : P.follows .mixedOrders = true) (hnf : noFloat t l ks = true) (hv : ks.length = Vs.length)
    (hst : StableB Grew (fun w w' => ∃ a : Act, S (a.tmps[t]?.getD undef) w w') ks Vs)
    (hops : PhHoldQ P Q Grew (fun a => S (a.tmps[t]?.getD undef)) (at_ Vs) a0 w0.drew 0 l reads ks)
    (hend : EndHold (fun _ _ => True) (at_ Vs) w0.drew (Later (fun a w => (∃ w1, Grew w0.drew w1 ∧ S (a.tmps[t]?.getD undef) w1 w) → wpList P l.toArray Q (dropN reads l) a w)) (fun _ => True) fin a0) :
    (Code.region id l.toArray true).wp P Q a0 w0 :=
  wp_region_bigQ ks (at_ Vs) Grew (fun a => S (a.tmps[t]?.getD undef)) reads fin _ hn hk (dropN_eq reads l) hm Grew.refl (fun _ _ _ => Grew.trans) hK hb (stableB_at ks Vs hv hst) (fun i o hk ho a w1 w v => noFloat_put hnf S i o hk ho a w1 w v) hops (endHold_later _ _ _ hend)
end Go.Proofs.YtmifoihfpjomaaaR

-- AudT
namespace Go.Proofs.Ytmifoihfpjomaaa.F
open Go Go.RowKit Go.Proofs.YtmifoihfpjomaaaW.PrintWords Go.Proofs.YtmifoihfpjomaaaW.PrintLast Go.Proofs.YtmifoihfpjomaaaW.PrintMore Go.Proofs.YtmifoihfpjomaaaM Go.Proofs.YtmifoihfpjomaaaR
set_option linter.unusedSimpArgs false
set_option linter.unusedVariables false
set_option maxRecDepth 100000
/-- the audit in what Add gives -/
def RowE (N : Nat) (rl : List En) (w : World) (v : Value) : Prop := RowO w N 36 5 v rl.length (ens rl)
/-- both results -/
def AddT (N : Nat) (ra : ByteArray) (rn : Int) (rl : List En) (re : Int) : World → Value → Prop := fun w v => ∃ v0, v = .tuple #[.agg #[.string ra, .int .i64 rn, v0], .int .i64 re] ∧ RowE N rl w v0
/-- the first of them -/
def AddA (N : Nat) (ra : ByteArray) (rn : Int) (rl : List En) : World → Value → Prop := fun w v => ∃ v0, v = .agg #[.string ra, .int .i64 rn, v0] ∧ RowE N rl w v0
/-- a new block of three cells -/
def NewA (N : Nat) (t : TypeId) : World → Value → Prop := fun w v => ∃ g cs, v = .pointer (some ⟨g, 0, none⟩) ∧ N ≤ g ∧ cs.length = 3 ∧ Blk w g t cs
/-- into it the audit is put -/
def PutA (N : Nat) (t : TypeId) (ra : ByteArray) (rn : Int) (rl : List En) : Value → World → World → Prop := fun v w w' => ∃ g cs v0, v = .pointer (some ⟨g, 0, none⟩) ∧ N ≤ g ∧ cs.length = 3 ∧ Blk w g t cs ∧ RowE N rl w v0 ∧ w' = w.setRow g [Value.string ra, .int .i64 rn, v0].toArray
section
variable {N : Nat} {t : TypeId} {ra : ByteArray} {rn : Int} {rl : List En} {re : Int} {q : Tmp}
theorem RowE.put {w w' : World} {v : Value} (ht : 36 ≠ t) (hh : Grew w w' ∨ (∃ a : Act, PutA N t ra rn rl (a.tmps[q]?.getD undef) w w')) {m : List En} {M : Nat} (h : RowE M m w v) : RowE M m w' v := by
  rcases hh with hg | ⟨a, g, cs, v0, -, -, -, hb, -, rfl⟩
  · exact RowO.grew h hg
  · exact RowO.upd (S := fun j => j = g) h (Upd.setRow (S := fun j => j = g) (Upd.refl _ _) (.inl rfl) _) (fun j hj e => RowO.ne h hb ht (by rw [hj, e]))
theorem AddT.stable (ht : 36 ≠ t) {sa : ByteArray} {sn : Int} {sl : List En} {se : Int} {M : Nat} : ∀ w w' v, Grew w w' ∨ (∃ a : Act, PutA N t ra rn rl (a.tmps[q]?.getD undef) w w') → AddT M sa sn sl se w v → AddT M sa sn sl se w' v :=
  fun _ _ _ hh ⟨v0, h1, h2⟩ => ⟨v0, h1, h2.put ht hh⟩
theorem AddA.stable (ht : 36 ≠ t) {sa : ByteArray} {sn : Int} {sl : List En} {M : Nat} : ∀ w w' v, Grew w w' ∨ (∃ a : Act, PutA N t ra rn rl (a.tmps[q]?.getD undef) w w') → AddA M sa sn sl w v → AddA M sa sn sl w' v :=
  fun _ _ _ hh ⟨v0, h1, h2⟩ => ⟨v0, h1, h2.put ht hh⟩
theorem NewA.stable {M : Nat} {t' : TypeId} : ∀ w w' v, Grew w w' ∨ (∃ a : Act, PutA N t ra rn rl (a.tmps[q]?.getD undef) w w') → NewA M t' w v → NewA M t' w' v := by
  rintro w w' v hh ⟨g, cs, h1, h2, h3, h4⟩
  rcases hh with hg | ⟨a, g', cs', v0, -, -, -, hb, -, rfl⟩
  · exact ⟨g, cs, h1, h2, h3, h4.grew hg⟩
  · by_cases he : g = g'
    · subst he; exact ⟨g, _, h1, h2, rfl, h4.setRow _⟩
    · exact ⟨g, cs, h1, h2, h3, h4.farRow he _⟩
end
end Go.Proofs.Ytmifoihfpjomaaa.F

-- AudY
namespace Go.Proofs.Ytmifoihfpjomaaa.F
open Go Go.RowKit Go.Proofs.YtmifoihfpjomaaaW.PrintWords Go.Proofs.YtmifoihfpjomaaaW.PrintLast Go.Proofs.YtmifoihfpjomaaaW.PrintMore Go.Proofs.YtmifoihfpjomaaaM Go.Proofs.YtmifoihfpjomaaaR
set_option linter.unusedSimpArgs false
set_option linter.unusedVariables false
set_option maxRecDepth 100000
theorem numd_nil : numd [] := fun i e h => by simp at h
theorem numd_snoc {l : List En} (h : numd l) {e : En} (hg : goodP (nextE (l.length : Int) e) = true) : numd (l ++ [nextE (l.length : Int) e]) := by
  intro i x hx
  rcases Nat.lt_or_ge i l.length with hi | hi
  · rw [List.getElem?_append_left hi] at hx; exact h i x hx
  · rw [List.getElem?_append_right hi] at hx
    have h0 : i - l.length = 0 := by
      have := (List.getElem?_eq_some_iff.1 hx).1
      simp at this; omega
    rw [h0] at hx
    obtain rfl : nextE (l.length : Int) e = x := by simpa using hx
    exact ⟨by show (l.length : Int) + 1 = (i : Int) + 1; omega, hg⟩
theorem mayL_numd {l : List En} {s : Int} (h : ∀ (i : Nat) (e : En), l[i]? = some e → e.f0 = s + (i : Int) ∧ goodP e = true) : mayL s l = true := by
  induction l generalizing s with
  | nil => rfl
  | cons x l ih =>
    have h0 := h 0 x rfl
    simp only [mayL, Bool.and_eq_true, decide_eq_true_eq]
    exact ⟨h0.2, by simpa using h0.1, ih (fun i e he => ⟨by have := (h (i + 1) e (by simpa using he)).1; push_cast at this; omega, (h (i + 1) e (by simpa using he)).2⟩)⟩
theorem chainE_32 {d : List Int} (hd : d.length = 32) (l : List En) : (chainE d l).length = 32 := by
  induction l generalizing d with
  | nil => exact hd
  | cons e l ih => exact ih (sealL_len _ _)
theorem z32_len : (bytesOf Z32).length = 32 := by rw [bytesOf_length, z32_size]
theorem ofA_bytes (l : List En) : bytesOf (ofA l) = chainE (bytesOf Z32) (l.take (l.length - 8)) := bytesOf_str' (chainE_bytes (bytesOf_bytes _) _)
theorem may_of {l : List En} (h : numd l) (hl : l.length ≤ 1000) : mayP (ofA l) (l.length : Int) (l.drop (l.length - 8)) = true := by
  unfold mayP
  rw [Bool.and_eq_true, decide_eq_true_eq]
  refine ⟨⟨?_, by omega, by omega, ?_⟩, mayL_numd fun i e he => ?_⟩
  · unfold ofA; rw [str_size, chainE_32 z32_len]
  · rw [List.length_drop]; omega
  · rw [List.getElem?_drop] at he
    have hi := (List.getElem?_eq_some_iff.1 he).1
    have := h _ e he
    refine ⟨?_, this.2⟩
    rw [this.1, List.length_drop]; omega
theorem dig_of {l : List En} (h : numd l) (hl : l.length ≤ 1000) : digP (ofA l) (l.length : Int) (l.drop (l.length - 8)) = strOfNums (chainE (bytesOf Z32) l) := by
  unfold digP
  rw [may_of h hl, if_pos rfl, ofA_bytes, ← chainE_app, List.take_append_drop]
theorem add_of {l : List En} (h : numd l) (hl : l.length ≤ 1000) (e : En) : addP (ofA l) (l.length : Int) (l.drop (l.length - 8)) e = if goodP (nextE (l.length : Int) e) then some (ofA (l ++ [nextE (l.length : Int) e]), (l ++ [nextE (l.length : Int) e]).drop ((l ++ [nextE (l.length : Int) e]).length - 8)) else none := by
  unfold addP
  rw [may_of h hl, Bool.true_and]
  cases hg : goodP (nextE (l.length : Int) e) with
  | false => rfl
  | true =>
    rw [if_pos rfl, if_pos rfl]
    congr 1
    obtain ⟨E, hE⟩ : ∃ E, E = nextE (l.length : Int) e := ⟨_, rfl⟩
    rw [← hE, List.length_append, List.length_drop]
    simp only [List.length_cons, List.length_nil, Nat.zero_add]
    by_cases h8 : 8 ≤ l.length
    · rw [if_pos (by omega)]
      have hsp : l.drop (l.length - 8) = l[l.length - 8] :: l.drop (l.length - 8 + 1) := List.drop_eq_getElem_cons (by omega)
      refine Prod.ext ?_ ?_
      · show strOfNums _ = ofA (l ++ [E])
        rw [ofA_bytes]
        unfold ofA
        rw [List.length_append, show l.length + [E].length - 8 = l.length - 8 + 1 from by simp; omega, List.take_append_of_le_length (by omega), List.take_add_one, List.getElem?_eq_getElem (by omega), hsp]
        simp only [Option.toList_some, chainE_snoc, List.getD_cons_zero]
      · show (l.drop (l.length - 8)).drop 1 ++ [E] = _
        rw [List.drop_drop, show l.length + 1 - 8 = l.length - 8 + 1 from by omega, List.drop_append_of_le_length (by omega)]
    · rw [if_neg (by omega)]
      refine Prod.ext ?_ ?_
      · show ofA l = ofA (l ++ [E])
        unfold ofA
        rw [List.length_append, show l.length - 8 = 0 from by omega, show l.length + [E].length - 8 = 0 from by simp; omega]
        rfl
      · show l.drop (l.length - 8) ++ [E] = _
        rw [show l.length - 8 = 0 from by omega, show l.length + 1 - 8 = 0 from by omega]
        rfl
theorem ofA_nil' : ofA [] = Z32 := by unfold ofA; exact str_bytes Z32
theorem C_nil (w : World) (A : Option Addr) : Kd.C k36 w A 0 [] := ⟨rfl, by omega, fun h => absurd h (by omega)⟩
/-- an audit's entries in memory, beside a row that may grow -/
def AuR (w : World) (v4 va : Value) (rl : List En) : Prop := (rl = [] ∧ ∃ A c, va = .slice A 0 c) ∨ (∃ N, RowO w N 36 5 va rl.length (ens rl) ∧ ∀ j, va.ownBlock = some j → v4.ownBlock ≠ some j)
theorem AuR.C {w : World} {v4 va : Value} {rl : List En} (h : AuR w v4 va rl) : ∃ A c, va = .slice A rl.length c ∧ rl.length ≤ c ∧ Kd.C k36 w A rl.length rl := by
  rcases h with ⟨rfl, A, c, rfl⟩ | ⟨N, h, -⟩
  · exact ⟨A, c, rfl, Nat.zero_le _, C_nil w A⟩
  · exact rowO_C h rfl
theorem AuR.grew {w w' : World} {v4 va : Value} {rl : List En} (h : AuR w v4 va rl) (hg : Grew w w') : AuR w' v4 va rl :=
  h.imp id fun ⟨N, h1, h2⟩ => ⟨N, h1.grew hg, h2⟩
/-- what holds between two rounds -/
structure PlayI (w0 wr : World) (g3 B0 : Nat) (al : List En) (v4 va : Value) : Prop where
  num : numd al
  row : RowO wr B0 36 5 v4 al.length (ens al)
  blk : Blk wr g3 27 [.string (ofA al), .int .i64 (al.length : Int), va]
  aud : AuR wr v4 va (al.drop (al.length - 8))
  grew : Grew w0 wr
theorem PlayI.grow {w0 w w' : World} {g3 B0 : Nat} {al : List En} {v4 va : Value} (h : PlayI w0 w g3 B0 al v4 va) (hg : Grew w w') : PlayI w0 w' g3 B0 al v4 va :=
  ⟨h.num, h.row.grew hg, h.blk.grew hg, h.aud.grew hg, Grew.trans h.grew hg⟩
end Go.Proofs.Ytmifoihfpjomaaa.F
