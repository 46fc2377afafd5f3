/- A region that draws its order of evaluation: it is enough to look at each of its operations by itself. What each leaves in its temporary is said by a predicate that nothing else in the region can turn; what each may do to the world is said by one relation. Any program. -/
import Derived.Orders
import Derived.Tactics
import Derived.Below
import Derived.Deep.Draws
namespace Go.Proofs.YtaeobiilihklhaaR
open Go Go.RowKit

/-- what an operation reads: a temporary, and the last operation ahead of it (in the text) that writes it -/
abbrev Reads := List (Tmp × Option Nat)
/-- its guard: the temporary, and what it must be -/
abbrev GuardT := Option (Tmp × Bool)

def lastW (ops : Array Oper) (p : Nat → Bool) (t : Tmp) : Option Nat :=
  (List.range ops.size).reverse.find? fun j => p j && ((ops[j]?).bind (·.dst) == some t)

def bitsOf (A : List Nat) : List Edge → Nat
  | [] => 0
  | e :: es => (if Region.binds .any e then 2 ^ e.on ||| A.getD e.on 0 else 0) ||| bitsOf A es

def mkAnc (ops : List Oper) : List Nat := ops.foldl (fun A o => A ++ [bitsOf A o.after.toList]) []

def edgesOk (ops : Array Oper) (A : List Nat) : Bool :=
  (List.range ops.size).all fun j => match ops[j]? with
    | none => true
    | some o => A.getD j 0 == bitsOf A o.after.toList && o.after.toList.all fun e => !Region.binds .any e || decide (e.on < j)

def names (ops : Array Oper) (o : Oper) : List Tmp := o.dst.toList ++ o.looksAt ops

def pairsOk (ops : Array Oper) (A : List Nat) : Bool :=
  (List.range ops.size).all fun j => match ops[j]? with
    | none => true
    | some oj => (List.range j).all fun i => match ops[i]? with
      | none => true
      | some oi => (A.getD j 0).testBit i || ((oi.dst.all fun t => !(names ops oj).contains t) && (oj.dst.all fun t => !(oi.looksAt ops).contains t))

def readsOk (ops : Array Oper) (reads : List (Reads × GuardT)) (n : Nat) : Bool :=
  (List.range reads.length).all fun i => match ops[i]?, reads[i]? with
    | some o, some (r, g) =>
      (r.all fun (t, j) => (o.looksAt ops).contains t && lastW ops (fun j => decide (j < i)) t == j) &&
      (o.dst.all fun d => decide (d < n)) &&
      (match o.guard, g with
        | none, none => true
        | some (k, want), some (t, want') => want == want' && (ops[k]?).bind (·.dst) == some t
        | _, _ => false)
    | _, _ => true

def finalOk (ops : Array Oper) (m : Nat) (fin : List (Tmp × Nat)) : Bool :=
  (fin.all fun (t, j) => lastW ops (fun j => decide (j < m)) t == some j) &&
  (ops.toList.take m).all fun o => o.dst.all fun t => (fin.map (·.1)).contains t

/-- from operation m on, each waits for all that stand ahead of it -/
def tailOk (ops : Array Oper) (A : List Nat) (m : Nat) : Bool :=
  decide (m ≤ ops.size) && (List.range ops.size).all fun j => decide (j < m) || (List.range j).all fun i => (A.getD j 0).testBit i

def regionOk (ops : Array Oper) (reads : List (Reads × GuardT)) (fin : List (Tmp × Nat)) (n : Nat) : Bool :=
  let A := mkAnc ops.toList
  edgesOk ops A && pairsOk ops A && readsOk ops reads n && finalOk ops reads.length fin && tailOk ops A reads.length

section
variable (P : Program) (Q : Exit → Act → World → Prop) (R : World → World → Prop) (V : Nat → World → Value → Prop) (a0 : Act) (w0 : World) (E : Act → World → Prop)

def Dep (a : Act) (w : World) : Tmp × Option Nat → Prop
  | (t, some j) => V j w (a.tmps[t]?.getD undef)
  | (t, none) => a.tmps[t]?.getD undef = a0.tmps[t]?.getD undef

def Deps (a : Act) (w : World) : Reads → Prop
  | [] => True
  | r :: rs => Dep V a0 a w r ∧ Deps a w rs

/-- an operation's goal: whatever comes behind it -/
def OpGoal (o : Oper) (g : GuardT) (i : Nat) (a : Act) (w : World) : Prop :=
  match g with
  | none => ∀ K : Act → World → Prop, (∀ v w', R w w' → V i w' v → K (a.put o.dst v) w') → o.wp P a w K Q
  | some (t, want) => (a.tmps[t]?.getD undef = .bool want → ∀ K : Act → World → Prop, (∀ v w', R w w' → V i w' v → K (a.put o.dst v) w') → o.wp P a w K Q) ∧
      (a.tmps[t]?.getD undef ≠ .bool want → V i w undef)

def OpsHold : Nat → List Oper → List (Reads × GuardT) → Prop
  | i, o :: os, (r, g) :: rs => (∀ a w, R w0 w → Deps V a0 a w r → OpGoal P Q R V o g i a w) ∧ OpsHold (i + 1) os rs
  | _, _, _ => True

/-- behind the region: what each temporary holds at last -/
def EndHold : (World → Prop) → List (Tmp × Nat) → Act → Prop
  | F, [], a => ∀ w, R w0 w → F w → E a w
  | F, (t, j) :: fin, a => ∀ v, EndHold (fun w => F w ∧ V j w v) fin (a.put (some t) v)
end

theorem testBit_bitsOf (A : List Nat) (i : Nat) : ∀ es : List Edge, (bitsOf A es).testBit i = true →
    ∃ e ∈ es, Region.binds .any e = true ∧ (e.on = i ∨ (A.getD e.on 0).testBit i = true)
  | [], h => by simp [bitsOf] at h
  | e :: es, h => by
    simp only [bitsOf, Nat.testBit_or, Bool.or_eq_true] at h
    rcases h with h | h
    · split at h
      · rename_i hb
        simp only [Nat.testBit_or, Bool.or_eq_true, Nat.testBit_two_pow, decide_eq_true_eq] at h
        exact ⟨e, by simp, hb, h⟩
      · simp at h
    · obtain ⟨e', he, hb, h'⟩ := testBit_bitsOf A i es h
      exact ⟨e', by simp [he], hb, h'⟩

/-- what is listed is closed downward -/
def Closed (ops : Array Oper) (listed : Array Bool) : Prop :=
  ∀ j o, ops[j]? = some o → listed.getD j false = true → ∀ e ∈ o.after, Region.binds .any e = true → listed.getD e.on false = true

theorem closed_anc {ops : Array Oper} {A : List Nat} {listed : Array Bool} (hA : edgesOk ops A = true) (hc : Closed ops listed) :
    ∀ (j : Nat) (o : Oper), ops[j]? = some o → (∀ e ∈ o.after, Region.binds .any e = true → listed.getD e.on false = true) → ∀ i, (A.getD j 0).testBit i = true → listed.getD i false = true := by
  intro j
  induction j using Nat.strongRecOn with
  | _ j ih =>
    intro o ho hd i hi
    have hj : j < ops.size := (Array.getElem?_eq_some_iff.1 ho).1
    have h1 := List.all_eq_true.1 hA j (List.mem_range.2 hj)
    simp only [ho, Bool.and_eq_true, beq_iff_eq, List.all_eq_true, Bool.or_eq_true, Bool.not_eq_true', decide_eq_true_eq] at h1
    obtain ⟨e1, e2⟩ := h1
    rw [e1] at hi
    obtain ⟨e, he, hb, h⟩ := testBit_bitsOf A i _ hi
    have hlt := (e2 e he).resolve_left (by simp [hb])
    have hl := hd e (by simpa using he) hb
    rcases h with rfl | h
    · exact hl
    · have hek : e.on < ops.size := by omega
      exact ih e.on hlt _ (Array.getElem?_eq_getElem hek) (hc e.on _ (Array.getElem?_eq_getElem hek) hl) i h

theorem getD_set_self {listed : Array Bool} {i : Nat} (h : i < listed.size) (d : Bool) : (listed.setIfInBounds i true).getD i d = true := by
  simp [h]
theorem getD_set_other {listed : Array Bool} {i j : Nat} (d : Bool) (h : i ≠ j) : (listed.setIfInBounds i true).getD j d = listed.getD j d := by
  simp [Array.getElem?_setIfInBounds_ne h]
theorem getD_irrel {listed : Array Bool} {i : Nat} (h : i < listed.size) (d d' : Bool) : listed.getD i d = listed.getD i d' := by simp [h]

theorem lastW_congr {ops : Array Oper} {p q : Nat → Bool} {t : Tmp} (h : ∀ j o, ops[j]? = some o → o.dst = some t → p j = q j) : lastW ops p t = lastW ops q t := by
  unfold lastW
  have aux : ∀ l : List Nat, l.find? (fun j => p j && ((ops[j]?).bind (·.dst) == some t)) = l.find? (fun j => q j && ((ops[j]?).bind (·.dst) == some t)) := by
    intro l
    induction l with
    | nil => rfl
    | cons j l ih =>
      have e : (p j && ((ops[j]?).bind (·.dst) == some t)) = (q j && ((ops[j]?).bind (·.dst) == some t)) := by
        cases ho : ops[j]? with
        | none => simp
        | some o =>
          by_cases hd : o.dst = some t
          · rw [h j o ho hd]
          · simp [show (o.dst == some t) = false from by simpa using hd]
      simp only [List.find?_cons, e, ih]
  exact aux _

theorem lastW_set {ops : Array Oper} {p : Nat → Bool} {i : Nat} {o : Oper} {t : Tmp} (ho : ops[i]? = some o) (hd : o.dst = some t) (hp : p i = true)
    (hno : ∀ j oj, ops[j]? = some oj → oj.dst = some t → i < j → p j = false) : lastW ops p t = some i := by
  unfold lastW
  have hi : i < ops.size := (Array.getElem?_eq_some_iff.1 ho).1
  have : (List.range ops.size) = List.range (i + 1) ++ (List.range' (i + 1) (ops.size - (i + 1))) := by
    rw [List.range_eq_range', List.range_eq_range']
    have := List.range'_append_1 (s := 0) (m := i + 1) (n := ops.size - (i + 1))
    rw [Nat.zero_add] at this
    rw [this]; congr 1; omega
  rw [this, List.reverse_append, List.find?_append]
  rw [List.find?_eq_none.2]
  · rw [List.range_succ, List.reverse_append]
    simp [ho, hd, hp]
  · intro x hx
    simp only [List.mem_reverse, List.mem_range'_1] at hx
    cases hox : ops[x]? with
    | none => simp
    | some ox =>
      by_cases hdx : ox.dst = some t
      · simp [hno x ox hox hdx (by omega)]
      · simp [hdx]

section
variable {P : Program} {ops : Array Oper} {Q : Exit → Act → World → Prop} {R : World → World → Prop} {V : Nat → World → Value → Prop} {a0 : Act} {w0 : World} {E : Act → World → Prop}

/-- what is known between two operations -/
structure Inv (ops : Array Oper) (m : Nat) (R : World → World → Prop) (V : Nat → World → Value → Prop) (a0 : Act) (w0 : World) (listed : Array Bool) (a : Act) (w : World) : Prop where
  step : R w0 w
  size : a.tmps.size = a0.tmps.size
  defers : a.defers = a0.defers
  lsize : listed.size = ops.size
  closed : Closed ops listed
  tail : ∀ j, m ≤ j → listed.getD j false = false
  tmps : ∀ t, match lastW ops (fun j => listed.getD j false) t with
    | some j => V j w (a.tmps[t]?.getD undef)
    | none => a.tmps[t]?.getD undef = a0.tmps[t]?.getD undef

theorem opsHold_at : ∀ (os : List Oper) (rs : List (Reads × GuardT)) (k i : Nat) (o : Oper) (r : Reads) (g : GuardT), OpsHold P Q R V a0 w0 k os rs → os[i]? = some o → rs[i]? = some (r, g) →
    ∀ a w, R w0 w → Deps V a0 a w r → OpGoal P Q R V o g (k + i) a w
  | [], _, _, i, o, r, g, _, ho, _ => by simp at ho
  | o' :: os, [], _, i, o, r, g, _, _, hr => by simp at hr
  | o' :: os, (r', g') :: rs, k, 0, o, r, g, h, ho, hr => by
    simp at ho hr
    obtain ⟨rfl, rfl⟩ := hr
    subst ho
    exact h.1
  | o' :: os, (r', g') :: rs, k, i + 1, o, r, g, h, ho, hr => by
    have := opsHold_at os rs (k + 1) i o r g h.2 (by simpa using ho) (by simpa using hr)
    rw [show k + 1 + i = k + (i + 1) from by omega] at this
    exact this

theorem deps_of (a : Act) (w : World) : ∀ r : Reads, (∀ x ∈ r, Dep V a0 a w x) → Deps V a0 a w r
  | [], _ => trivial
  | x :: r, h => ⟨h x (by simp), deps_of a w r fun y hy => h y (by simp [hy])⟩

theorem unlisted_set {listed : Array Bool} {i : Nat} (h : listed.getD i true = false) (n : Nat) (hn : (listed.toList.count false) ≤ n + 1) : ((listed.setIfInBounds i true).toList.count false) ≤ n := by
  have hi : i < listed.size := by
    rcases Nat.lt_or_ge i listed.size with h' | h'
    · exact h'
    · simp [Array.getElem?_eq_none h'] at h
  have hv : listed[i] = false := by simpa [hi] using h
  rw [Array.toList_setIfInBounds]
  have hl : i < listed.toList.length := by simpa using hi
  rw [List.count_set hl]
  have : listed.toList[i] = false := by simpa using hv
  rw [this]
  simp only [beq_self_eq_true, if_true]
  have hb : (true == false) = false := rfl
  rw [hb]
  simp only [Bool.false_eq_true, if_false]
  omega

theorem all_of_ready {md : Region.Mode} {listed : Array Bool} {A : List Nat} (hm : md = .any) (hA : edgesOk ops A = true) (hs : listed.size = ops.size) (h : Region.ready md ops listed = []) :
    ∀ j, j < ops.size → listed.getD j false = true := by
  subst hm
  intro j
  induction j using Nat.strongRecOn with
  | _ j ih =>
    intro hj
    cases hl : listed.getD j false with
    | true => rfl
    | false =>
      exfalso
      have ho := Array.getElem?_eq_getElem hj
      have h1 := List.all_eq_true.1 hA j (List.mem_range.2 hj)
      simp only [ho, Bool.and_eq_true, beq_iff_eq, List.all_eq_true, Bool.or_eq_true, Bool.not_eq_true', decide_eq_true_eq] at h1
      have : j ∈ Region.ready .any ops listed := mem_ready.2 ⟨by rw [getD_irrel (by omega) true false]; exact hl, _, ho, fun e he hb => ih e.on ((h1.2 e (by simpa using he)).resolve_left (by simp [hb])) (by have := (h1.2 e (by simpa using he)).resolve_left (by simp [hb]); omega)⟩
      rw [h] at this
      cases this

theorem wanted_iff {o : Oper} {k : Nat} {want : Bool} {t : Tmp} {a : Act} (hg : o.guard = some (k, want)) (hk : (ops[k]?).bind (·.dst) = some t) :
    Region.wanted o (yielded ops a.tmps) = true ↔ a.tmps[t]?.getD undef = .bool want := by
  unfold Region.wanted yielded
  rw [hg]
  simp only []
  rw [hk]
  simp only [Option.bind_some]
  cases h : a.tmps[t]? with
  | none => simp [undef]
  | some v => cases v <;> simp

/-- the tail: one behind the other, in the text's order -/
theorem wpAny_tail {A : List Nat} {m : Nat} (hA : edgesOk ops A = true) (hT : tailOk ops A m = true) :
    ∀ (fuel k : Nat) (listed : Array Bool) (a : Act) (w : World), m ≤ k → ops.size ≤ k + fuel → k ≤ ops.size → listed.size = ops.size → (∀ j, listed.getD j false = decide (j < k)) →
      wpList P ops Q (ops.toList.drop k) a w → wpAny P .any ops Q fuel listed a w := by
  simp only [tailOk, Bool.and_eq_true, decide_eq_true_eq, List.all_eq_true, Bool.or_eq_true, List.mem_range] at hT
  have ready_at : ∀ (k : Nat) (listed : Array Bool), m ≤ k → k ≤ ops.size → listed.size = ops.size → (∀ j, listed.getD j false = decide (j < k)) → ∀ i, i ∈ Region.ready .any ops listed ↔ i = k ∧ k < ops.size := by
    intro k listed hmk hk hs hl i
    constructor
    · intro hi
      obtain ⟨hun, o, ho, hd⟩ := mem_ready.1 hi
      have hisz := (Array.getElem?_eq_some_iff.1 ho).1
      have hik : ¬ i < k := by
        have := hl i
        rw [getD_irrel (by omega) false true, hun] at this
        simpa using this.symm
      rcases Nat.lt_or_ge k i with hlt | hge
      · exfalso
        have hb := (hT.2 i hisz).resolve_left (by omega) k hlt
        have hcl : Closed ops listed := by
          intro j oj hoj hlj e he hbe
          have h1 := List.all_eq_true.1 hA j (List.mem_range.2 (Array.getElem?_eq_some_iff.1 hoj).1)
          simp only [hoj, Bool.and_eq_true, beq_iff_eq, List.all_eq_true, Bool.or_eq_true, Bool.not_eq_true', decide_eq_true_eq] at h1
          have := (h1.2 e (by simpa using he)).resolve_left (by simp [hbe])
          rw [hl] at hlj ⊢
          simp at hlj ⊢
          omega
        have := closed_anc hA hcl i o ho hd k hb
        rw [hl] at this
        simp at this
      · exact ⟨by omega, by omega⟩
    · rintro ⟨rfl, hlt⟩
      refine mem_ready.2 ⟨by rw [getD_irrel (by omega) true false, hl]; simp, _, Array.getElem?_eq_getElem hlt, fun e he hbe => ?_⟩
      have h1 := List.all_eq_true.1 hA i (List.mem_range.2 hlt)
      simp only [Array.getElem?_eq_getElem hlt, Bool.and_eq_true, beq_iff_eq, List.all_eq_true, Bool.or_eq_true, Bool.not_eq_true', decide_eq_true_eq] at h1
      have := (h1.2 e (by simpa using he)).resolve_left (by simp [hbe])
      rw [hl]; simpa using this
  intro fuel
  induction fuel with
  | zero =>
    intro k listed a w hmk hf hk hs hl h
    obtain rfl : k = ops.size := by omega
    have hr : Region.ready .any ops listed = [] := by
      refine List.eq_nil_iff_forall_not_mem.2 fun i hi => ?_
      have := (ready_at ops.size listed hmk hk hs hl i).1 hi
      omega
    refine ⟨hr, ?_⟩
    rw [List.drop_of_length_le (by simp)] at h
    exact h
  | succ fuel ih =>
    intro k listed a w hmk hf hk hs hl h
    refine ⟨fun hr => ?_, fun i hi => ?_⟩
    · rcases Nat.lt_or_ge k ops.size with hlt | hge
      · have := (ready_at k listed hmk hk hs hl k).2 ⟨rfl, hlt⟩
        rw [hr] at this; cases this
      · rw [List.drop_of_length_le (by simpa using hge)] at h
        exact h
    · obtain ⟨rfl, hlt⟩ := (ready_at k listed hmk hk hs hl i).1 hi
      have hdrop : ops.toList.drop i = ops[i] :: ops.toList.drop (i + 1) := by
        rw [List.drop_eq_getElem_cons (by simpa using hlt)]; simp
      rw [hdrop] at h
      have hl' : ∀ j, (listed.setIfInBounds i true).getD j false = decide (j < i + 1) := by
        intro j
        by_cases hji : i = j
        · subst hji; rw [getD_set_self (by omega)]; simp
        · rw [getD_set_other _ hji, hl]; simp; omega
      have next : ∀ a' w', wpList P ops Q (ops.toList.drop (i + 1)) a' w' → wpAny P .any ops Q fuel (listed.setIfInBounds i true) a' w' := fun a' w' h' =>
        ih (i + 1) _ a' w' (by omega) (by omega) (by omega) (by simpa using hs) hl' h'
      unfold wpList at h
      unfold wpOp
      simp only [Array.getElem?_eq_getElem hlt]
      split
      · rename_i hw
        rw [if_pos hw] at h
        exact h.imp (Oper.wp_mono next) id
      · rename_i hw
        rw [if_neg hw] at h
        exact next _ _ h

theorem wpAny_inv {A : List Nat} {reads : List (Reads × GuardT)} (hA : edgesOk ops A = true) (hP : pairsOk ops A = true) (hR : readsOk ops reads a0.tmps.size = true) (hT : tailOk ops A reads.length = true)
    (hrf : ∀ w, R w w) (htr : ∀ a b c, R a b → R b c → R a c) (hst : ∀ i w w' v, R w w' → V i w v → V i w' v)
    (hops : OpsHold P Q R V a0 w0 0 ops.toList reads)
    (hend : ∀ listed a w, (∀ j, listed.getD j false = decide (j < reads.length)) → Inv ops reads.length R V a0 w0 listed a w → wpList P ops Q (ops.toList.drop reads.length) a w) :
    ∀ (fuel : Nat) (listed : Array Bool) (a : Act) (w : World), listed.toList.count false ≤ fuel → Inv ops reads.length R V a0 w0 listed a w → wpAny P .any ops Q fuel listed a w := by
  have hT0 := hT
  simp only [tailOk, Bool.and_eq_true, decide_eq_true_eq, List.all_eq_true, Bool.or_eq_true, List.mem_range] at hT0
  -- when all of the head has come up
  have fin : ∀ (fuel : Nat) (listed : Array Bool) (a : Act) (w : World), listed.toList.count false ≤ fuel → Inv ops reads.length R V a0 w0 listed a w → (∀ j, j < reads.length → listed.getD j false = true) → wpAny P .any ops Q fuel listed a w := by
    intro fuel listed a w hf hi hall
    have hl : ∀ j, listed.getD j false = decide (j < reads.length) := by
      intro j
      rcases Nat.lt_or_ge j reads.length with h | h
      · rw [hall j h]; simp [h]
      · rw [hi.tail j h]; simp; omega
    refine wpAny_tail hA hT fuel reads.length listed a w (Nat.le_refl _) ?_ hT0.1 hi.lsize hl (hend listed a w hl hi)
    -- those that are not listed are as many as the tail is long
    have : (listed.toList.drop reads.length).count false = listed.size - reads.length := by
      have h1 : listed.toList.drop reads.length = List.replicate (listed.size - reads.length) false := by
        refine List.ext_getElem (by simp) fun j h1 h2 => ?_
        simp only [List.getElem_drop, List.getElem_replicate]
        have h3 : reads.length + j < listed.size := by simp at h1; omega
        have h4 := hi.tail (reads.length + j) (by omega)
        simpa [h3] using h4
      rw [h1, List.count_replicate_self]
    have h2 : (listed.toList.drop reads.length).count false ≤ listed.toList.count false := List.Sublist.count_le _ (List.drop_sublist _ _)
    have := hi.lsize
    omega
  -- before that, nothing of the tail may come up
  have low : ∀ (listed : Array Bool), listed.size = ops.size → Closed ops listed → ∀ i, i ∈ Region.ready .any ops listed → reads.length ≤ i → ∀ j, j < reads.length → listed.getD j false = true := by
    intro listed hs hc i hi hm j hj
    obtain ⟨hun, o, ho, hd⟩ := mem_ready.1 hi
    have hisz := (Array.getElem?_eq_some_iff.1 ho).1
    exact closed_anc hA hc i o ho hd j ((hT0.2 i hisz).resolve_left (by omega) j (by omega))
  intro fuel
  induction fuel with
  | zero =>
    intro listed a w hf hi
    refine fin 0 listed a w hf hi fun j hj => ?_
    have hjs : j < listed.size := by have := hi.lsize; omega
    cases hl : listed.getD j false with
    | true => rfl
    | false =>
      exfalso
      have hv : listed[j] = false := by simpa [hjs] using hl
      have : 0 < listed.toList.count false := List.count_pos_iff.2 (by rw [← hv]; simp)
      omega
  | succ fuel ih =>
    intro listed a w hf hi
    by_cases hall : ∀ j, j < reads.length → listed.getD j false = true
    · exact fin (fuel + 1) listed a w hf hi hall
    refine ⟨fun h => absurd (fun j hj => all_of_ready rfl hA hi.lsize h j (by omega)) hall, fun i hir => ?_⟩
    have him : i < reads.length := by
      rcases Nat.lt_or_ge i reads.length with h | h
      · exact h
      · exact absurd (low listed hi.lsize hi.closed i hir h) hall
    obtain ⟨hun, o, ho, hdeps⟩ := mem_ready.1 hir
    have hisz : i < ops.size := (Array.getElem?_eq_some_iff.1 ho).1
    have hun' : listed.getD i false = false := by rw [getD_irrel (by rw [hi.lsize]; exact hisz) false true]; exact hun
    simp only [readsOk, List.all_eq_true] at hR
    have hRi := hR i (List.mem_range.2 him)
    have hri : reads[i]? = some (reads[i]'(by omega)) := List.getElem?_eq_getElem (by omega)
    generalize hrg : reads[i]'(by omega) = rg at hri
    obtain ⟨r, g⟩ := rg
    rw [ho, hri] at hRi
    simp only [Bool.and_eq_true, List.all_eq_true] at hRi
    obtain ⟨⟨hr, hdst⟩, hg⟩ := hRi
    -- ancestors of i are listed; descendants are not
    have hanc : ∀ k, (A.getD i 0).testBit k = true → listed.getD k false = true := closed_anc hA hi.closed i o ho hdeps
    have hdesc : ∀ j oj, ops[j]? = some oj → (A.getD j 0).testBit i = true → listed.getD j false = false := by
      intro j oj hoj hb
      cases hl : listed.getD j false with
      | false => rfl
      | true =>
        have := closed_anc hA hi.closed j oj hoj (hi.closed j oj hoj hl) i hb
        rw [this] at hun'; cases hun'
    have pair : ∀ i' j' oi' oj', i' < j' → ops[i']? = some oi' → ops[j']? = some oj' → (A.getD j' 0).testBit i' = true ∨ ((∀ t, oi'.dst = some t → t ∉ names ops oj') ∧ ∀ t, oj'.dst = some t → t ∉ oi'.looksAt ops) := by
      intro i' j' oi' oj' hlt hoi hoj
      have h1 := List.all_eq_true.1 hP j' (List.mem_range.2 (Array.getElem?_eq_some_iff.1 hoj).1)
      simp only [hoj, List.all_eq_true, List.mem_range] at h1
      have h2 := h1 i' hlt
      simp only [hoi, Bool.or_eq_true, Bool.and_eq_true] at h2
      rcases h2 with h2 | ⟨h2, h3⟩
      · exact .inl h2
      · refine .inr ⟨fun t ht => ?_, fun t ht => ?_⟩
        · simp [ht] at h2; exact h2
        · simp [ht] at h3; exact h3
    -- the writers that are listed of what i looks at are those ahead of it
    have hlook : ∀ t ∈ o.looksAt ops, lastW ops (fun j => listed.getD j false) t = lastW ops (fun j => decide (j < i)) t := by
      intro t ht
      refine lastW_congr fun j oj hoj hd => ?_
      rcases Nat.lt_trichotomy j i with hlt | rfl | hgt
      · have := (pair j i oj o hlt hoj ho).resolve_right (fun h => h.1 t hd (List.mem_append_right _ ht))
        simp [hlt, hanc j this]
      · simp [hun']
      · have := (pair i j o oj hgt ho hoj).resolve_right (fun h => h.2 t hd ht)
        rw [hdesc j oj hoj this]
        symm; simp; omega
    have hD : Deps V a0 a w r := by
      refine deps_of a w r fun ⟨t, j⟩ hx => ?_
      have h1 := hr (t, j) hx
      simp only [beq_iff_eq, List.contains_iff_mem] at h1
      have h2 := hi.tmps t
      rw [hlook t h1.1, h1.2] at h2
      cases j <;> exact h2
    have hgoal := opsHold_at ops.toList reads 0 i o r g hops (by simpa using ho) hri a w hi.step hD
    rw [Nat.zero_add] at hgoal
    -- behind operation i
    have next : ∀ v w', R w w' → V i w' v → wpAny P .any ops Q fuel (listed.setIfInBounds i true) (a.put o.dst v) w' := by
      intro v w' hww hv
      refine ih _ _ _ (unlisted_set hun fuel hf) ⟨htr _ _ _ hi.step hww, ?_, ?_, by simp [hi.lsize], ?_, fun j hj => ?_, ?_⟩
      · cases hd : o.dst <;> simp [Act.put, hi.size]
      · cases hd : o.dst <;> simp [Act.put, hi.defers]
      · intro j oj hoj hl e he hb
        by_cases hji : i = j
        · subst hji
          rw [ho] at hoj
          obtain rfl := Option.some.inj hoj
          by_cases hei : i = e.on
          · rw [← hei]; exact getD_set_self (by rw [hi.lsize]; exact hisz) _
          · rw [getD_set_other _ hei]; exact hdeps e he hb
        · rw [getD_set_other _ hji] at hl
          by_cases hei : i = e.on
          · rw [← hei]; exact getD_set_self (by rw [hi.lsize]; exact hisz) _
          · rw [getD_set_other _ hei]; exact hi.closed j oj hoj hl e he hb
      · rw [getD_set_other _ (by omega)]; exact hi.tail j hj
      · intro t
        by_cases hd : o.dst = some t
        · rw [lastW_set ho hd (p := fun j => (listed.setIfInBounds i true).getD j false) (getD_set_self (by rw [hi.lsize]; exact hisz) _) (fun j oj hoj hdj hlt => by
            have := (pair i j o oj hlt ho hoj).resolve_right (fun h => h.1 t hd (by simp [names, hdj]))
            rw [getD_set_other _ (by omega)]
            exact hdesc j oj hoj this)]
          have htn : t < a.tmps.size := by rw [hi.size]; simpa [hd] using hdst
          simp only [hd, Act.put]
          simpa [htn] using hv
        · rw [lastW_congr (q := fun j => listed.getD j false) (fun j oj hoj hdj => by
            by_cases hji : i = j
            · subst hji; rw [ho] at hoj; obtain rfl := Option.some.inj hoj; exact absurd hdj hd
            · exact getD_set_other _ hji)]
          have h2 := hi.tmps t
          have same : (a.put o.dst v).tmps[t]?.getD undef = a.tmps[t]?.getD undef := by
            cases hdd : o.dst with
            | none => rfl
            | some d =>
              have hne : d ≠ t := fun e => hd (by rw [hdd, e])
              simp [Act.put, Array.getElem?_setIfInBounds_ne hne]
          rw [same]
          revert h2
          cases lastW ops (fun j => listed.getD j false) t with
          | none => exact id
          | some j => exact hst j _ _ _ hww
    unfold wpOp
    simp only [ho]
    cases hgg : o.guard with
    | none =>
      rw [hgg] at hg
      cases g with
      | some _ => simp at hg
      | none =>
        rw [if_pos (by simp [Region.wanted, hgg])]
        exact .inl (hgoal _ next)
    | some kw =>
      obtain ⟨k, want⟩ := kw
      rw [hgg] at hg
      cases g with
      | none => simp at hg
      | some tw =>
        obtain ⟨t, want'⟩ := tw
        simp only [Bool.and_eq_true, beq_iff_eq] at hg
        obtain ⟨rfl, hk⟩ := hg
        have hw := wanted_iff (a := a) hgg hk
        by_cases hv : a.tmps[t]?.getD undef = .bool want
        · rw [if_pos (hw.2 hv)]
          exact .inl (hgoal.1 hv _ next)
        · rw [if_neg (fun h => hv (hw.1 h))]
          exact next undef w (hrf w) (hgoal.2 hv)

theorem endHold_at (v : Nat → Value) (w : World) (hR : R w0 w) : ∀ (fin : List (Tmp × Nat)) (F : World → Prop) (a : Act), EndHold R V w0 E F fin a → F w → (∀ x ∈ fin, V x.2 w (v x.1)) →
    E (fin.foldl (fun a x => a.put (some x.1) (v x.1)) a) w
  | [], _, _, h, hF, _ => h w hR hF
  | x :: fin, _, _, h, hF, hx => endHold_at v w hR fin _ _ (h (v x.1)) ⟨hF, hx x (by simp)⟩ (fun y hy => hx y (by simp [hy]))

theorem foldl_put (v : Nat → Value) : ∀ (fin : List (Tmp × Nat)) (a : Act),
    (fin.foldl (fun a x => a.put (some x.1) (v x.1)) a).tmps.size = a.tmps.size ∧ (fin.foldl (fun a x => a.put (some x.1) (v x.1)) a).defers = a.defers ∧
    ∀ t, t < a.tmps.size → (fin.foldl (fun a x => a.put (some x.1) (v x.1)) a).tmps[t]? = if t ∈ fin.map (·.1) then some (v t) else a.tmps[t]?
  | [], a => ⟨rfl, rfl, fun t _ => by simp⟩
  | x :: fin, a => by
    have h := foldl_put v fin (a.put (some x.1) (v x.1))
    simp only [List.foldl_cons]
    have hs : (a.put (some x.1) (v x.1)).tmps.size = a.tmps.size := by simp [Act.put]
    refine ⟨h.1.trans hs, h.2.1.trans rfl, fun t ht => ?_⟩
    rw [h.2.2 t (by rw [hs]; exact ht)]
    by_cases hm : t ∈ fin.map (·.1)
    · rw [if_pos hm, if_pos (by simp only [List.map_cons]; exact List.mem_cons_of_mem _ hm)]
    · rw [if_neg hm]
      by_cases hx : t = x.1
      · subst hx
        rw [if_pos (by simp)]
        simp [Act.put, ht]
      · rw [if_neg (by simp only [List.map_cons, List.mem_cons, not_or]; exact ⟨hx, hm⟩)]
        simp [Act.put, Array.getElem?_setIfInBounds_ne (Ne.symm hx)]

/-- **A region that draws its order, each operation by itself.** R: what may become of the world (reflexive, transitive); V i: what operation i leaves in its temporary (kept by R). Behind the head (as many operations as 'reads' has) the tail goes in the text's order. -/
theorem wp_region_each {id : Nat} {n : Nat} (V : Nat → World → Value → Prop) (R : World → World → Prop) (reads : List (Reads × GuardT)) (fin : List (Tmp × Nat)) {l : List Oper} (tail : List Oper) (hn : a0.tmps.size = n) (hk : regionOk l.toArray reads fin n = true) (hd : l.drop reads.length = tail) (hm : P.follows .mixedOrders = true)
    (hrf : ∀ w, R w w) (htr : ∀ a b c, R a b → R b c → R a c) (hst : ∀ i w w' v, R w w' → V i w v → V i w' v)
    (hops : OpsHold P Q R V a0 w0.drew 0 l reads)
    (hend : EndHold R V w0.drew (wpList P l.toArray Q tail) (fun _ => True) fin a0) :
    (Code.region id l.toArray true).wp P Q a0 w0 := by
  subst hn
  subst hd
  simp only [regionOk, Bool.and_eq_true] at hk
  obtain ⟨⟨⟨⟨hA, hP⟩, hR⟩, hF⟩, hT⟩ := hk
  refine wp_region_any hm ?_
  refine wpAny_inv (w0 := w0.drew) hA hP hR hT hrf htr hst hops ?_ _ _ _ _ (Nat.le_trans List.count_le_length (by simp)) ⟨hrf _, rfl, rfl, by simp, ?_, ?_, ?_⟩
  · intro listed a w hl hi
    simp only [finalOk, Bool.and_eq_true, List.all_eq_true, beq_iff_eq] at hF
    have hF2 : ∀ (j : Nat) (o : Oper) (t : Tmp), l.toArray[j]? = some o → j < reads.length → o.dst = some t → t ∈ fin.map (·.1) := by
      intro j o t ho hj hd
      have := hF.2 o (by
        have h1 : (l.take reads.length)[j]? = some o := by rw [List.getElem?_take_of_lt hj]; simpa using ho
        exact List.mem_of_getElem? h1)
      rw [hd] at this
      simpa using this
    have hlast : ∀ t, lastW l.toArray (fun j => listed.getD j false) t = lastW l.toArray (fun j => decide (j < reads.length)) t := fun t =>
      lastW_congr fun j o ho _ => hl j
    have e : fin.foldl (fun a' x => a'.put (some x.1) ((fun t => a.tmps[t]?.getD undef) x.1)) a0 = a := by
      have h := foldl_put (fun t => a.tmps[t]?.getD undef) fin a0
      have hd : (fin.foldl (fun a' x => a'.put (some x.1) ((fun t => a.tmps[t]?.getD undef) x.1)) a0).defers = a.defers := h.2.1.trans hi.defers.symm
      have ht : (fin.foldl (fun a' x => a'.put (some x.1) ((fun t => a.tmps[t]?.getD undef) x.1)) a0).tmps = a.tmps := by
        refine Array.ext_getElem? fun t => ?_
        rcases Nat.lt_or_ge t a0.tmps.size with hlt | hge
        · rw [h.2.2 t hlt]
          have hat : a.tmps[t]? = some (a.tmps[t]?.getD undef) := by
            have : t < a.tmps.size := by rw [hi.size]; exact hlt
            simp [this]
          by_cases hm : t ∈ fin.map (·.1)
          · rw [if_pos hm]; exact hat.symm
          · rw [if_neg hm]
            have h2 := hi.tmps t
            have hnone : lastW l.toArray (fun j => listed.getD j false) t = none := by
              unfold lastW
              rw [List.find?_eq_none]
              intro j _
              cases ho : l.toArray[j]? with
              | none => simp
              | some o =>
                by_cases hdo : o.dst = some t
                · rcases Nat.lt_or_ge j reads.length with hj | hj
                  · exact absurd (hF2 j o t ho hj hdo) hm
                  · simp only [hi.tail j hj]; simp
                · simp [hdo]
            rw [hnone] at h2
            rw [hat, h2]
            simp [hlt]
        · rw [Array.getElem?_eq_none (by rw [h.1]; exact hge), Array.getElem?_eq_none (by rw [hi.size]; exact hge)]
      generalize fin.foldl (fun a' x => a'.put (some x.1) ((fun t => a.tmps[t]?.getD undef) x.1)) a0 = z at hd ht
      cases z; cases a; simp_all
    have := endHold_at (fun t => a.tmps[t]?.getD undef) w hi.step fin _ a0 hend trivial (fun x hx => by
      have h1 := hF.1 x hx
      have h2 := hi.tmps x.1
      rw [hlast, h1] at h2
      exact h2)
    rw [e] at this
    exact this
  · intro j o ho hl
    exfalso
    have hj : j < l.length := by simpa using (Array.getElem?_eq_some_iff.1 ho).1
    simp [hj] at hl
  · intro j _
    rcases Nat.lt_or_ge j l.length with h | h
    · simp [h]
    · simp [h]
  · intro t
    have : lastW l.toArray (fun j => (Array.replicate l.toArray.size false).getD j false) t = none := by
      unfold lastW
      rw [List.find?_eq_none]
      intro j hj
      have hj : j < l.length := by simpa using hj
      simp [hj]
    rw [this]

/-- the predicates as a list -/
def at_ (Vs : List (World → Value → Prop)) (i : Nat) : World → Value → Prop := Vs.getD i (fun _ _ => True)
def Stable (R : World → World → Prop) : List (World → Value → Prop) → Prop
  | [] => True
  | V :: Vs => (∀ w w' v, R w w' → V w v → V w' v) ∧ Stable R Vs
theorem stable_at : ∀ (Vs : List (World → Value → Prop)), Stable R Vs → ∀ i w w' v, R w w' → at_ Vs i w v → at_ Vs i w' v
  | [], _, _, _, _, _, _, _ => trivial
  | _ :: _, h, 0, w, w', v, hr, hv => h.1 w w' v hr hv
  | _ :: Vs, h, i + 1, w, w', v, hr, hv => stable_at Vs h.2 i w w' v hr hv
end

/-- the world has only grown -/
def Grew (w w' : World) : Prop := Below w.heap.size w w'
theorem Grew.refl (w : World) : Grew w w := Below.refl _ _
theorem Grew.trans {a b c : World} (h : Grew a b) (k : Grew b c) : Grew a c := by
  have k' : Below a.heap.size b c := Below.mono k h.size
  exact Below.trans h k'
theorem Grew.drew (w : World) : Grew w w.drew := ⟨rfl, rfl, rfl, Nat.le_refl _, fun _ _ => rfl⟩
theorem Grew.drewN (w : World) (n : Nat) : Grew w (w.drewN n) := ⟨rfl, rfl, rfl, Nat.le_refl _, fun _ _ => rfl⟩
theorem Grew.alloc (w : World) (o : Obj) : Grew w (w.alloc o) := (Below.refl _ _).alloc (Nat.le_refl _) o

/-- exactly this value -/
def Is (x : Value) : World → Value → Prop := fun _ v => v = x
theorem Is.stable {R : World → World → Prop} (x : Value) : ∀ w w' v, R w w' → Is x w v → Is x w' v := fun _ _ _ _ h => h
/-- a call's end: it returns what V says, and the world has only grown -/
def Tells (w : World) (V : World → Value → Prop) (e : Ending) (w' : World) : Prop := ∃ v, e = .returned v ∧ V w' v ∧ Grew w w'
theorem tells_is {P : Program} {f : FuncId} {args : Array Value} {w : World} {x : Value} (h : Calls P f args w fun e w' => e = .returned x ∧ Below w.heap.size w w') : Calls P f args w (Tells w (Is x)) :=
  h.mono fun _ _ ⟨he, hw⟩ => ⟨x, he, rfl, hw⟩
theorem is_tells {P : Program} {f : FuncId} {args : Array Value} {w : World} {x : Value} (h : Calls P f args w (Tells w (Is x))) : Calls P f args w fun e w' => e = .returned x ∧ Below w.heap.size w w' :=
  h.mono fun _ _ ⟨_, he, hx, hw⟩ => ⟨hx ▸ he, hw⟩

section
variable {R : World → World → Prop} {V : Nat → World → Value → Prop} {w0 : World} {E : Act → World → Prop}
theorem endHold_mono : ∀ (fin : List (Tmp × Nat)) (F F' : World → Prop) (a : Act), (∀ w, F' w → F w) → EndHold R V w0 E F fin a → EndHold R V w0 E F' fin a
  | [], _, _, _, h, k => fun w hR hF => k w hR (h w hF)
  | _ :: fin, _, _, _, h, k => fun v => endHold_mono fin _ _ _ (fun w ⟨h1, h2⟩ => ⟨h w h1, h2⟩) (k v)
theorem endHold_never : ∀ (fin : List (Tmp × Nat)) (F : World → Prop) (a : Act), (∀ w, ¬ F w) → EndHold R V w0 E F fin a
  | [], _, _, h => fun w _ hF => absurd hF (h w)
  | _ :: fin, _, _, h => fun _ => endHold_never fin _ _ (fun w ⟨h1, _⟩ => h w h1)
/-- what comes later, closed to the eye -/
structure Later (E : Act → World → Prop) (a : Act) (w : World) : Prop where
  now : E a w
theorem endHold_later : ∀ (fin : List (Tmp × Nat)) (F : World → Prop) (a : Act), EndHold R V w0 (Later E) F fin a → EndHold R V w0 E F fin a
  | [], _, _, k => fun w hR hF => (k w hR hF).now
  | _ :: fin, _, _, k => fun v => endHold_later fin _ _ (k v)
/-- temporaries whose values are known -/
def AllIs (V : Nat → World → Value → Prop) : List (Tmp × Nat) → List Value → Prop
  | [], [] => True
  | (_, j) :: fin, x :: xs => V j = Is x ∧ AllIs V fin xs
  | _, _ => False
def putEach : List (Tmp × Nat) → List Value → Act → Act
  | (t, _) :: fin, x :: xs, a => putEach fin xs (a.put (some t) x)
  | _, _, a => a
theorem end_all : ∀ {fin : List (Tmp × Nat)} {xs : List Value} {F : World → Prop} {a : Act}, AllIs V fin xs → (∀ w, R w0 w → F w → E (putEach fin xs a) w) → EndHold R V w0 E F fin a
  | [], [], _, _, _, k => k
  | (t, j) :: fin, x :: xs, F, a, h, k => fun v => by
    by_cases e : v = x
    · subst e
      exact endHold_mono fin _ _ _ (fun _ h => h.1) (end_all h.2 k)
    · exact endHold_never fin _ _ (fun w ⟨_, h2⟩ => e (by rw [h.1] at h2; exact h2))
  | [], _ :: _, _, _, h, _ => h.elim
  | _ :: _, [], _, _, h, _ => h.elim
end
def dropN {α β : Type} : List α → List β → List β
  | [], l => l
  | _ :: _, [] => []
  | _ :: r, _ :: l => dropN r l
theorem dropN_eq {α β : Type} : ∀ (r : List α) (l : List β), l.drop r.length = dropN r l
  | [], l => by simp [dropN]
  | _ :: _, [] => by simp [dropN]
  | _ :: r, _ :: l => by simp [dropN, dropN_eq r l]

/-- the rule for a region whose world only grows, its predicates as a list -/
theorem region_grew {P : Program} {Q : Exit → Act → World → Prop} {a0 : Act} {w0 : World} {id : Nat} {n : Nat} {l : List Oper} (Vs : List (World → Value → Prop)) (reads : List (Reads × GuardT)) (fin : List (Tmp × Nat))
    (hn : a0.tmps.size = n) (hk : regionOk l.toArray reads fin n = true) (hm : P.follows .mixedOrders = true)
    (hst : Stable Grew Vs)
    (hops : OpsHold P Q Grew (at_ Vs) a0 w0.drew 0 l reads)
    (hend : EndHold Grew (at_ Vs) w0.drew (Later (wpList P l.toArray Q (dropN reads l))) (fun _ => True) fin a0) :
    (Code.region id l.toArray true).wp P Q a0 w0 :=
  wp_region_each (at_ Vs) Grew reads fin _ hn hk (dropN_eq reads l) hm Grew.refl (fun _ _ _ => Grew.trans) (stable_at Vs hst) hops (endHold_later _ _ _ hend)
/-! ### one operation that turns what was there -/

/-- float: it doesn't look at the world; plain: it comes before the big one; big: it may turn what was there -/
inductive Phase where
  | float | plain | big
  deriving DecidableEq
def phaseOk (A : List Nat) (ks : List Phase) (m : Nat) : Bool :=
  ks.length == m && (List.range m).all fun j => match ks[j]? with
    | some .big => (List.range m).all fun i => i == j || ks[i]? == some .float || (A.getD j 0).testBit i
    | _ => true

section
variable (P : Program) (Q : Exit → Act → World → Prop) (R Rp : World → World → Prop) (V : Nat → World → Value → Prop) (a0 : Act) (w0 : World) (E : Act → World → Prop)
def PhGoal (o : Oper) (g : GuardT) (i : Nat) (r : Reads) : Phase → Prop
  | .plain => ∀ a w, R w0 w → Deps V a0 a w r → OpGoal P Q R V o g i a w
  | .float => ∀ a w, Deps V a0 a w r → OpGoal P Q (fun w w' => w' = w) V o g i a w
  | .big => o.guard = none ∧ ∀ a w, R w0 w → Deps V a0 a w r → ∀ K : Act → World → Prop, (∀ v w', Rp w w' → V i w' v → K (a.put o.dst v) w') → o.wp P a w K Q
def PhHold : Nat → List Oper → List (Reads × GuardT) → List Phase → Prop
  | i, o :: os, (r, g) :: rs, k :: ks => PhGoal P Q R Rp V a0 w0 o g i r k ∧ PhHold (i + 1) os rs ks
  | _, _, _, _ => True
end

section
variable {P : Program} {ops : Array Oper} {Q : Exit → Act → World → Prop} {R Rp : World → World → Prop} {V : Nat → World → Value → Prop} {a0 : Act} {w0 : World} {E : Act → World → Prop}
theorem phHold_at : ∀ (os : List Oper) (rs : List (Reads × GuardT)) (ks : List Phase) (k i : Nat) (o : Oper) (r : Reads) (g : GuardT) (p : Phase), PhHold P Q R Rp V a0 w0 k os rs ks → os[i]? = some o → rs[i]? = some (r, g) → ks[i]? = some p →
    PhGoal P Q R Rp V a0 w0 o g (k + i) r p
  | [], _, _, _, i, o, r, g, p, _, ho, _, _ => by simp at ho
  | o' :: os, [], _, _, i, o, r, g, p, _, _, hr, _ => by simp at hr
  | o' :: os, (r', g') :: rs, [], _, i, o, r, g, p, _, _, _, hk => by simp at hk
  | o' :: os, (r', g') :: rs, p' :: ks, k, 0, o, r, g, p, h, ho, hr, hk => by
    simp at ho hr hk
    obtain ⟨rfl, rfl⟩ := hr
    subst ho
    subst hk
    exact h.1
  | o' :: os, (r', g') :: rs, p' :: ks, k, i + 1, o, r, g, p, h, ho, hr, hk => by
    have := phHold_at os rs ks (k + 1) i o r g p h.2 (by simpa using ho) (by simpa using hr) (by simpa using hk)
    rw [show k + 1 + i = k + (i + 1) from by omega] at this
    exact this
/-- the big one has come -/
def BigIn (ks : List Phase) (listed : Array Bool) : Prop := ∃ p, ks[p]? = some .big ∧ listed.getD p false = true
/-- what is known between two operations -/
structure InvB (ops : Array Oper) (m : Nat) (R Rp : World → World → Prop) (V : Nat → World → Value → Prop) (ks : List Phase) (a0 : Act) (w0 : World) (listed : Array Bool) (a : Act) (w : World) : Prop where
  early : ¬ BigIn ks listed → R w0 w
  late : BigIn ks listed → ∃ w1, R w0 w1 ∧ Rp w1 w
  size : a.tmps.size = a0.tmps.size
  defers : a.defers = a0.defers
  lsize : listed.size = ops.size
  closed : Closed ops listed
  tail : ∀ j, m ≤ j → listed.getD j false = false
  tmps : ∀ t, match lastW ops (fun j => listed.getD j false) t with
    | some j => V j w (a.tmps[t]?.getD undef)
    | none => a.tmps[t]?.getD undef = a0.tmps[t]?.getD undef
theorem lastW_listed {ops : Array Oper} {p : Nat → Bool} {t : Tmp} {j : Nat} (h : lastW ops p t = some j) : p j = true := by
  unfold lastW at h
  have := List.find?_some h
  simp only [Bool.and_eq_true] at this
  exact this.1
theorem wpAny_invB {A : List Nat} {reads : List (Reads × GuardT)} {ks : List Phase} (hA : edgesOk ops A = true) (hP : pairsOk ops A = true) (hR : readsOk ops reads a0.tmps.size = true) (hT : tailOk ops A reads.length = true)
    (hrf : ∀ w, R w w) (htr : ∀ a b c, R a b → R b c → R a c) (hK : phaseOk A ks reads.length = true)
    (hst : ∀ i, ks[i]? ≠ some .big → ∀ w w' v, R w w' ∨ Rp w w' → V i w v → V i w' v)
    (hops : PhHold P Q R Rp V a0 w0 0 ops.toList reads ks)
    (hend : ∀ listed a w, (∀ j, listed.getD j false = decide (j < reads.length)) → InvB ops reads.length R Rp V ks a0 w0 listed a w → wpList P ops Q (ops.toList.drop reads.length) a w) :
    ∀ (fuel : Nat) (listed : Array Bool) (a : Act) (w : World), listed.toList.count false ≤ fuel → InvB ops reads.length R Rp V ks a0 w0 listed a w → wpAny P .any ops Q fuel listed a w := by
  have hT0 := hT
  simp only [tailOk, Bool.and_eq_true, decide_eq_true_eq, List.all_eq_true, Bool.or_eq_true, List.mem_range] at hT0
  -- when all of the head has come up
  have fin : ∀ (fuel : Nat) (listed : Array Bool) (a : Act) (w : World), listed.toList.count false ≤ fuel → InvB ops reads.length R Rp V ks a0 w0 listed a w → (∀ j, j < reads.length → listed.getD j false = true) → wpAny P .any ops Q fuel listed a w := by
    intro fuel listed a w hf hi hall
    have hl : ∀ j, listed.getD j false = decide (j < reads.length) := by
      intro j
      rcases Nat.lt_or_ge j reads.length with h | h
      · rw [hall j h]; simp [h]
      · rw [hi.tail j h]; simp; omega
    refine wpAny_tail hA hT fuel reads.length listed a w (Nat.le_refl _) ?_ hT0.1 hi.lsize hl (hend listed a w hl hi)
    -- those that are not listed are as many as the tail is long
    have : (listed.toList.drop reads.length).count false = listed.size - reads.length := by
      have h1 : listed.toList.drop reads.length = List.replicate (listed.size - reads.length) false := by
        refine List.ext_getElem (by simp) fun j h1 h2 => ?_
        simp only [List.getElem_drop, List.getElem_replicate]
        have h3 : reads.length + j < listed.size := by simp at h1; omega
        have h4 := hi.tail (reads.length + j) (by omega)
        simpa [h3] using h4
      rw [h1, List.count_replicate_self]
    have h2 : (listed.toList.drop reads.length).count false ≤ listed.toList.count false := List.Sublist.count_le _ (List.drop_sublist _ _)
    have := hi.lsize
    omega
  -- before that, nothing of the tail may come up
  have low : ∀ (listed : Array Bool), listed.size = ops.size → Closed ops listed → ∀ i, i ∈ Region.ready .any ops listed → reads.length ≤ i → ∀ j, j < reads.length → listed.getD j false = true := by
    intro listed hs hc i hi hm j hj
    obtain ⟨hun, o, ho, hd⟩ := mem_ready.1 hi
    have hisz := (Array.getElem?_eq_some_iff.1 ho).1
    exact closed_anc hA hc i o ho hd j ((hT0.2 i hisz).resolve_left (by omega) j (by omega))
  intro fuel
  induction fuel with
  | zero =>
    intro listed a w hf hi
    refine fin 0 listed a w hf hi fun j hj => ?_
    have hjs : j < listed.size := by have := hi.lsize; omega
    cases hl : listed.getD j false with
    | true => rfl
    | false =>
      exfalso
      have hv : listed[j] = false := by simpa [hjs] using hl
      have : 0 < listed.toList.count false := List.count_pos_iff.2 (by rw [← hv]; simp)
      omega
  | succ fuel ih =>
    intro listed a w hf hi
    by_cases hall : ∀ j, j < reads.length → listed.getD j false = true
    · exact fin (fuel + 1) listed a w hf hi hall
    refine ⟨fun h => absurd (fun j hj => all_of_ready rfl hA hi.lsize h j (by omega)) hall, fun i hir => ?_⟩
    have him : i < reads.length := by
      rcases Nat.lt_or_ge i reads.length with h | h
      · exact h
      · exact absurd (low listed hi.lsize hi.closed i hir h) hall
    obtain ⟨hun, o, ho, hdeps⟩ := mem_ready.1 hir
    have hisz : i < ops.size := (Array.getElem?_eq_some_iff.1 ho).1
    have hun' : listed.getD i false = false := by rw [getD_irrel (by rw [hi.lsize]; exact hisz) false true]; exact hun
    simp only [readsOk, List.all_eq_true] at hR
    have hRi := hR i (List.mem_range.2 him)
    have hri : reads[i]? = some (reads[i]'(by omega)) := List.getElem?_eq_getElem (by omega)
    generalize hrg : reads[i]'(by omega) = rg at hri
    obtain ⟨r, g⟩ := rg
    rw [ho, hri] at hRi
    simp only [Bool.and_eq_true, List.all_eq_true] at hRi
    obtain ⟨⟨hr, hdst⟩, hg⟩ := hRi
    -- ancestors of i are listed; descendants are not
    have hanc : ∀ k, (A.getD i 0).testBit k = true → listed.getD k false = true := closed_anc hA hi.closed i o ho hdeps
    have hdesc : ∀ j oj, ops[j]? = some oj → (A.getD j 0).testBit i = true → listed.getD j false = false := by
      intro j oj hoj hb
      cases hl : listed.getD j false with
      | false => rfl
      | true =>
        have := closed_anc hA hi.closed j oj hoj (hi.closed j oj hoj hl) i hb
        rw [this] at hun'; cases hun'
    have pair : ∀ i' j' oi' oj', i' < j' → ops[i']? = some oi' → ops[j']? = some oj' → (A.getD j' 0).testBit i' = true ∨ ((∀ t, oi'.dst = some t → t ∉ names ops oj') ∧ ∀ t, oj'.dst = some t → t ∉ oi'.looksAt ops) := by
      intro i' j' oi' oj' hlt hoi hoj
      have h1 := List.all_eq_true.1 hP j' (List.mem_range.2 (Array.getElem?_eq_some_iff.1 hoj).1)
      simp only [hoj, List.all_eq_true, List.mem_range] at h1
      have h2 := h1 i' hlt
      simp only [hoi, Bool.or_eq_true, Bool.and_eq_true] at h2
      rcases h2 with h2 | ⟨h2, h3⟩
      · exact .inl h2
      · refine .inr ⟨fun t ht => ?_, fun t ht => ?_⟩
        · simp [ht] at h2; exact h2
        · simp [ht] at h3; exact h3
    -- the writers that are listed of what i looks at are those ahead of it
    have hlook : ∀ t ∈ o.looksAt ops, lastW ops (fun j => listed.getD j false) t = lastW ops (fun j => decide (j < i)) t := by
      intro t ht
      refine lastW_congr fun j oj hoj hd => ?_
      rcases Nat.lt_trichotomy j i with hlt | rfl | hgt
      · have := (pair j i oj o hlt hoj ho).resolve_right (fun h => h.1 t hd (List.mem_append_right _ ht))
        simp [hlt, hanc j this]
      · simp [hun']
      · have := (pair i j o oj hgt ho hoj).resolve_right (fun h => h.2 t hd ht)
        rw [hdesc j oj hoj this]
        symm; simp; omega
    have hD : Deps V a0 a w r := by
      refine deps_of a w r fun ⟨t, j⟩ hx => ?_
      have h1 := hr (t, j) hx
      simp only [beq_iff_eq, List.contains_iff_mem] at h1
      have h2 := hi.tmps t
      rw [hlook t h1.1, h1.2] at h2
      cases j <;> exact h2
    simp only [phaseOk, Bool.and_eq_true, beq_iff_eq, List.all_eq_true, List.mem_range] at hK
    have hki : ks[i]? = some (ks[i]'(by omega)) := List.getElem?_eq_getElem (by omega)
    generalize hkk : ks[i]'(by omega) = kd at hki
    have hgoal := phHold_at ops.toList reads ks 0 i o r g kd hops (by simpa using ho) hri hki
    rw [Nat.zero_add] at hgoal
    have big_all : ∀ p, ks[p]? = some .big → ∀ j, j < reads.length → j ≠ p → ks[j]? = some .float ∨ (A.getD p 0).testBit j = true := by
      intro p hp j hj hne
      have hpl : p < reads.length := by
        have := (List.getElem?_eq_some_iff.1 hp).1
        omega
      have := hK.2 p hpl
      rw [hp] at this
      simp only [List.all_eq_true, List.mem_range, Bool.or_eq_true, beq_iff_eq] at this
      rcases this j hj with (h | h) | h
      · exact absurd h hne
      · exact .inl h
      · exact .inr h
    have noBig : kd ≠ .float → ¬ BigIn ks listed := by
      rintro hne ⟨p, hp, hl⟩
      by_cases hip : i = p
      · subst hip; rw [hun'] at hl; cases hl
      · rcases big_all p hp i him hip with h | h
        · rw [hki] at h; exact hne (Option.some.inj h)
        · have hpo : p < ops.size := by
            rcases Nat.lt_or_ge p ops.size with h' | h'
            · exact h'
            · rw [show listed.getD p false = false from by simp [Array.getElem?_eq_none (show listed.size ≤ p by rw [hi.lsize]; exact h')]] at hl; cases hl
          have := closed_anc hA hi.closed p _ (Array.getElem?_eq_getElem hpo) (hi.closed p _ (Array.getElem?_eq_getElem hpo) hl) i h
          rw [this] at hun'; cases hun'
    have bigSet : ∀ {k : Phase}, kd = k → k ≠ .big → (BigIn ks (listed.setIfInBounds i true) ↔ BigIn ks listed) := by
      intro k hk hne
      constructor
      · rintro ⟨p, hp, hl⟩
        by_cases hip : i = p
        · subst hip; rw [hki] at hp; exact absurd (hk.symm.trans (Option.some.inj hp)) hne
        · rw [getD_set_other _ hip] at hl; exact ⟨p, hp, hl⟩
      · rintro ⟨p, hp, hl⟩
        by_cases hip : i = p
        · subst hip; rw [hun'] at hl; cases hl
        · exact ⟨p, hp, by rw [getD_set_other _ hip]; exact hl⟩
    have notBig : ∀ j, listed.getD j false = true → ¬ BigIn ks listed → ks[j]? ≠ some .big := fun j hl hb h => hb ⟨j, h, hl⟩
    -- behind operation i
    have next : ∀ v w', (∀ j, j ≠ i → listed.getD j false = true → ∀ u, V j w u → V j w' u) → (¬ BigIn ks (listed.setIfInBounds i true) → R w0 w') → (BigIn ks (listed.setIfInBounds i true) → ∃ w1, R w0 w1 ∧ Rp w1 w') → V i w' v → wpAny P .any ops Q fuel (listed.setIfInBounds i true) (a.put o.dst v) w' := by
      intro v w' hww he hl hv
      refine ih _ _ _ (unlisted_set hun fuel hf) ⟨he, hl, ?_, ?_, by simp [hi.lsize], ?_, fun j hj => ?_, ?_⟩
      · cases hd : o.dst <;> simp [Act.put, hi.size]
      · cases hd : o.dst <;> simp [Act.put, hi.defers]
      · intro j oj hoj hl e he hb
        by_cases hji : i = j
        · subst hji
          rw [ho] at hoj
          obtain rfl := Option.some.inj hoj
          by_cases hei : i = e.on
          · rw [← hei]; exact getD_set_self (by rw [hi.lsize]; exact hisz) _
          · rw [getD_set_other _ hei]; exact hdeps e he hb
        · rw [getD_set_other _ hji] at hl
          by_cases hei : i = e.on
          · rw [← hei]; exact getD_set_self (by rw [hi.lsize]; exact hisz) _
          · rw [getD_set_other _ hei]; exact hi.closed j oj hoj hl e he hb
      · rw [getD_set_other _ (by omega)]; exact hi.tail j hj
      · intro t
        by_cases hd : o.dst = some t
        · rw [lastW_set ho hd (p := fun j => (listed.setIfInBounds i true).getD j false) (getD_set_self (by rw [hi.lsize]; exact hisz) _) (fun j oj hoj hdj hlt => by
            have := (pair i j o oj hlt ho hoj).resolve_right (fun h => h.1 t hd (by simp [names, hdj]))
            rw [getD_set_other _ (by omega)]
            exact hdesc j oj hoj this)]
          have htn : t < a.tmps.size := by rw [hi.size]; simpa [hd] using hdst
          simp only [hd, Act.put]
          simpa [htn] using hv
        · rw [lastW_congr (q := fun j => listed.getD j false) (fun j oj hoj hdj => by
            by_cases hji : i = j
            · subst hji; rw [ho] at hoj; obtain rfl := Option.some.inj hoj; exact absurd hdj hd
            · exact getD_set_other _ hji)]
          have h2 := hi.tmps t
          have same : (a.put o.dst v).tmps[t]?.getD undef = a.tmps[t]?.getD undef := by
            cases hdd : o.dst with
            | none => rfl
            | some d =>
              have hne : d ≠ t := fun e => hd (by rw [hdd, e])
              simp [Act.put, Array.getElem?_setIfInBounds_ne hne]
          rw [same]
          revert h2
          cases hlw : lastW ops (fun j => listed.getD j false) t with
          | none => exact id
          | some j =>
            have hlj := lastW_listed hlw
            refine hww j ?_ hlj _
            intro e
            subst e
            rw [hun'] at hlj
            cases hlj
    unfold wpOp
    simp only [ho]
    cases kd with
    | big =>
      obtain ⟨hgn, hgoal⟩ := hgoal
      have hnb := noBig (by simp)
      rw [if_pos (by simp [Region.wanted, hgn])]
      refine .inl (hgoal a w (hi.early hnb) hD _ fun v w' hrp hv => ?_)
      have hbig : BigIn ks (listed.setIfInBounds i true) := ⟨i, hki, getD_set_self (by rw [hi.lsize]; exact hisz) _⟩
      exact next v w' (fun j _ hl u hu => hst j (notBig j hl hnb) w w' u (.inr hrp) hu) (fun h => absurd hbig h) (fun _ => ⟨w, hi.early hnb, hrp⟩) hv
    | plain =>
      have hnb := noBig (by simp)
      have hgoal := hgoal a w (hi.early hnb) hD
      have hs := bigSet rfl (by simp)
      have nx : ∀ v w', R w w' → V i w' v → wpAny P .any ops Q fuel (listed.setIfInBounds i true) (a.put o.dst v) w' := fun v w' hr hv =>
        next v w' (fun j _ hl u hu => hst j (notBig j hl hnb) w w' u (.inl hr) hu) (fun _ => htr _ _ _ (hi.early hnb) hr) (fun h => absurd (hs.1 h) hnb) hv
      cases hgg : o.guard with
      | none =>
        rw [hgg] at hg
        cases g with
        | some _ => simp at hg
        | none =>
          rw [if_pos (by simp [Region.wanted, hgg])]
          exact .inl (hgoal _ nx)
      | some kw =>
        obtain ⟨k, want⟩ := kw
        rw [hgg] at hg
        cases g with
        | none => simp at hg
        | some tw =>
          obtain ⟨t, want'⟩ := tw
          simp only [Bool.and_eq_true, beq_iff_eq] at hg
          obtain ⟨rfl, hk⟩ := hg
          have hw := wanted_iff (a := a) hgg hk
          by_cases hv : a.tmps[t]?.getD undef = .bool want
          · rw [if_pos (hw.2 hv)]
            exact .inl (hgoal.1 hv _ nx)
          · rw [if_neg (fun h => hv (hw.1 h))]
            exact nx undef w (hrf w) (hgoal.2 hv)
    | float =>
      have hgoal := hgoal a w hD
      have hs := bigSet rfl (by simp)
      have nx : ∀ v w', w' = w → V i w' v → wpAny P .any ops Q fuel (listed.setIfInBounds i true) (a.put o.dst v) w' := fun v w' hr hv => by
        subst hr
        exact next v w' (fun j _ _ u hu => hu) (fun h => hi.early (fun hb => h (hs.2 hb))) (fun h => hi.late (hs.1 h)) hv
      cases hgg : o.guard with
      | none =>
        rw [hgg] at hg
        cases g with
        | some _ => simp at hg
        | none =>
          rw [if_pos (by simp [Region.wanted, hgg])]
          exact .inl (hgoal _ nx)
      | some kw =>
        obtain ⟨k, want⟩ := kw
        rw [hgg] at hg
        cases g with
        | none => simp at hg
        | some tw =>
          obtain ⟨t, want'⟩ := tw
          simp only [Bool.and_eq_true, beq_iff_eq] at hg
          obtain ⟨rfl, hk⟩ := hg
          have hw := wanted_iff (a := a) hgg hk
          by_cases hv : a.tmps[t]?.getD undef = .bool want
          · rw [if_pos (hw.2 hv)]
            exact .inl (hgoal.1 hv _ nx)
          · rw [if_neg (fun h => hv (hw.1 h))]
            exact nx undef w rfl (hgoal.2 hv)
end

section
variable {P : Program} {Q : Exit → Act → World → Prop} {V : Nat → World → Value → Prop} {a0 : Act} {w0 : World} {E : Act → World → Prop}
theorem wp_region_big {id : Nat} {n : Nat} (ks : List Phase) (V : Nat → World → Value → Prop) (R Rp : World → World → Prop) (reads : List (Reads × GuardT)) (fin : List (Tmp × Nat)) {l : List Oper} (tail : List Oper) (hn : a0.tmps.size = n) (hk : regionOk l.toArray reads fin n = true) (hd : l.drop reads.length = tail) (hm : P.follows .mixedOrders = true)
    (hrf : ∀ w, R w w) (htr : ∀ a b c, R a b → R b c → R a c) (hK : phaseOk (mkAnc l) ks reads.length = true) (hb : ks.contains .big = true)
    (hst : ∀ i, ks[i]? ≠ some .big → ∀ w w' v, R w w' ∨ Rp w w' → V i w v → V i w' v)
    (hops : PhHold P Q R Rp V a0 w0.drew 0 l reads ks)
    (hend : EndHold (fun w w' => ∃ w1, R w w1 ∧ Rp w1 w') V w0.drew (wpList P l.toArray Q tail) (fun _ => True) fin a0) :
    (Code.region id l.toArray true).wp P Q a0 w0 := by
  subst hn
  subst hd
  simp only [regionOk, Bool.and_eq_true] at hk
  obtain ⟨⟨⟨⟨hA, hP⟩, hR⟩, hF⟩, hT⟩ := hk
  refine wp_region_any hm ?_
  refine wpAny_invB (Rp := Rp) (ks := ks) (w0 := w0.drew) hA hP hR hT hrf htr hK hst hops ?_ _ _ _ _ (Nat.le_trans List.count_le_length (by simp)) ⟨fun _ => hrf _, ?_, rfl, rfl, by simp, ?_, ?_, ?_⟩
  · intro listed a w hl hi
    simp only [finalOk, Bool.and_eq_true, List.all_eq_true, beq_iff_eq] at hF
    have hF2 : ∀ (j : Nat) (o : Oper) (t : Tmp), l.toArray[j]? = some o → j < reads.length → o.dst = some t → t ∈ fin.map (·.1) := by
      intro j o t ho hj hd
      have := hF.2 o (by
        have h1 : (l.take reads.length)[j]? = some o := by rw [List.getElem?_take_of_lt hj]; simpa using ho
        exact List.mem_of_getElem? h1)
      rw [hd] at this
      simpa using this
    have hlast : ∀ t, lastW l.toArray (fun j => listed.getD j false) t = lastW l.toArray (fun j => decide (j < reads.length)) t := fun t =>
      lastW_congr fun j o ho _ => hl j
    have e : fin.foldl (fun a' x => a'.put (some x.1) ((fun t => a.tmps[t]?.getD undef) x.1)) a0 = a := by
      have h := foldl_put (fun t => a.tmps[t]?.getD undef) fin a0
      have hd : (fin.foldl (fun a' x => a'.put (some x.1) ((fun t => a.tmps[t]?.getD undef) x.1)) a0).defers = a.defers := h.2.1.trans hi.defers.symm
      have ht : (fin.foldl (fun a' x => a'.put (some x.1) ((fun t => a.tmps[t]?.getD undef) x.1)) a0).tmps = a.tmps := by
        refine Array.ext_getElem? fun t => ?_
        rcases Nat.lt_or_ge t a0.tmps.size with hlt | hge
        · rw [h.2.2 t hlt]
          have hat : a.tmps[t]? = some (a.tmps[t]?.getD undef) := by
            have : t < a.tmps.size := by rw [hi.size]; exact hlt
            simp [this]
          by_cases hm : t ∈ fin.map (·.1)
          · rw [if_pos hm]; exact hat.symm
          · rw [if_neg hm]
            have h2 := hi.tmps t
            have hnone : lastW l.toArray (fun j => listed.getD j false) t = none := by
              unfold lastW
              rw [List.find?_eq_none]
              intro j _
              cases ho : l.toArray[j]? with
              | none => simp
              | some o =>
                by_cases hdo : o.dst = some t
                · rcases Nat.lt_or_ge j reads.length with hj | hj
                  · exact absurd (hF2 j o t ho hj hdo) hm
                  · simp only [hi.tail j hj]; simp
                · simp [hdo]
            rw [hnone] at h2
            rw [hat, h2]
            simp [hlt]
        · rw [Array.getElem?_eq_none (by rw [h.1]; exact hge), Array.getElem?_eq_none (by rw [hi.size]; exact hge)]
      generalize fin.foldl (fun a' x => a'.put (some x.1) ((fun t => a.tmps[t]?.getD undef) x.1)) a0 = z at hd ht
      cases z; cases a; simp_all
    have hbin : BigIn ks listed := by
      have hmem := List.contains_iff_mem.1 hb
      obtain ⟨p, hp⟩ := List.mem_iff_getElem?.1 hmem
      refine ⟨p, hp, ?_⟩
      rw [hl p]
      have h1 := (List.getElem?_eq_some_iff.1 hp).1
      have h2 := hK
      simp only [phaseOk, Bool.and_eq_true, beq_iff_eq] at h2
      simp; omega
    have := endHold_at (fun t => a.tmps[t]?.getD undef) w (hi.late hbin) fin _ a0 hend trivial (fun x hx => by
      have h1 := hF.1 x hx
      have h2 := hi.tmps x.1
      rw [hlast, h1] at h2
      exact h2)
    rw [e] at this
    exact this
  · rintro ⟨p, _, hp⟩
    exfalso
    rcases Nat.lt_or_ge p l.length with h | h
    · simp [h] at hp
    · simp [h] at hp
  · intro j o ho hl
    exfalso
    have hj : j < l.length := by simpa using (Array.getElem?_eq_some_iff.1 ho).1
    simp [hj] at hl
  · intro j _
    rcases Nat.lt_or_ge j l.length with h | h
    · simp [h]
    · simp [h]
  · intro t
    have : lastW l.toArray (fun j => (Array.replicate l.toArray.size false).getD j false) t = none := by
      unfold lastW
      rw [List.find?_eq_none]
      intro j hj
      have hj : j < l.length := by simpa using hj
      simp [hj]
    rw [this]


end

/-- the predicates of all but the big one are kept by both -/
def StableB (R Rp : World → World → Prop) : List Phase → List (World → Value → Prop) → Prop
  | k :: ks, V :: Vs => (k ≠ .big → ∀ w w' v, R w w' ∨ Rp w w' → V w v → V w' v) ∧ StableB R Rp ks Vs
  | _, _ => True
theorem stableB_at {R Rp : World → World → Prop} : ∀ (ks : List Phase) (Vs : List (World → Value → Prop)), ks.length = Vs.length → StableB R Rp ks Vs → ∀ i, ks[i]? ≠ some .big → ∀ w w' v, R w w' ∨ Rp w w' → at_ Vs i w v → at_ Vs i w' v
  | [], [], _, _, _, _, _, _, _, _, _ => trivial
  | k :: ks, V :: Vs, hl, h, 0, hn, w, w', v, hr, hv => h.1 (fun e => hn (by simp [e])) w w' v hr hv
  | k :: ks, V :: Vs, hl, h, i + 1, hn, w, w', v, hr, hv => stableB_at ks Vs (by simpa using hl) h.2 i (by simpa using hn) w w' v hr hv
theorem Is.stableB {R Rp : World → World → Prop} (x : Value) : ∀ w w' v, R w w' ∨ Rp w w' → Is x w v → Is x w' v := fun _ _ _ _ h => h
theorem region_big {P : Program} {Q : Exit → Act → World → Prop} {a0 : Act} {w0 : World} {id : Nat} {n : Nat} {l : List Oper} (Rp : World → World → Prop) (ks : List Phase) (Vs : List (World → Value → Prop)) (reads : List (Reads × GuardT)) (fin : List (Tmp × Nat))
    (hn : a0.tmps.size = n) (hk : regionOk l.toArray reads fin n = true) (hK : phaseOk (mkAnc l) ks reads.length = true) (hb : ks.contains .big = true) (hm : P.follows .mixedOrders = true) (hv : ks.length = Vs.length)
    (hst : StableB Grew Rp ks Vs)
    (hops : PhHold P Q Grew Rp (at_ Vs) a0 w0.drew 0 l reads ks)
    (hend : EndHold (fun w w' => ∃ w1, Grew w w1 ∧ Rp w1 w') (at_ Vs) w0.drew (Later (wpList P l.toArray Q (dropN reads l))) (fun _ => True) fin a0) :
    (Code.region id l.toArray true).wp P Q a0 w0 :=
  wp_region_big ks (at_ Vs) Grew Rp reads fin _ hn hk (dropN_eq reads l) hm Grew.refl (fun _ _ _ => Grew.trans) hK hb (stableB_at ks Vs hv hst) hops (endHold_later _ _ _ hend)
end Go.Proofs.YtaeobiilihklhaaR
